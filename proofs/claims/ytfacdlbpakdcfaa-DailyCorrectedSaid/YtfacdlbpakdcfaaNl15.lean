/-
  Calls of bound methods, and slices that are made. Conditions: none.
-/
import Derived.Test.YtfacdlbpakdcfaaNl14
import Derived.Laws.MakeOwn
import Derived.Laws.Cover3
set_option linter.unusedSimpArgs false
set_option linter.unusedVariables false
namespace Go.Nilo

section steps
variable {P : Program} {ops : Array Oper} {Q : Exit → Act → World → Prop} {rest : List Oper} {a : Act} {w : World} {N : Fm} {d : Nat} {F : List (Nat × Value)} {G : Pers} {L L' L'' : List Ent} {v : Value}
 {ty : TypeId} {pos : String} {aft : Array Edge} {gd : Option (Nat × Bool)} {x y : Operand} {T : TypeId}

theorem run_callB {f : Nat} {c : Call} {xs : List Operand} {bs vs caps : List Value} {a : Act} {dd : Option Nat} (hen : En P f) (hf : Has N a F) (hc : c.callee = .value x) (hx : ev F x = some (.func (.func f) bs.toArray caps.toArray)) (hargs : c.args = xs.toArray) (hvs : xs.mapM (ev F) = some vs) :
  (execOp a.eval ⟨dd,.call c,ty,pos,aft,gd⟩).run P w = .ok (.enter f (bs ++ (vs ++ caps)).toArray) w := by
 have e1 : c.args.map a.eval = vs.toArray := by rw [hargs]; apply Array.ext'; simpa using evs hf _ _ hvs
 simp only [execOp,resolve,hc,e1,hf.ev hx,Deferred.ofValue,Sem.run_bind,Sem.run_pure,Result.andThen_ok,invoke,hen _ _]
 simp
theorem stCB {f : Nat} {c : Call} {xs : List Operand} {bs vs caps : List Value} {R : Ending → World → Prop} (hf : Has N a F) (hg : gval ops F ⟨some d,.call c,ty,pos,aft,gd⟩ = some true) (hN : Nat.blt d N.n = true) (hc : c.callee = .value x) (hen : En P f) (hx : ev F x = some (.func (.func f) bs.toArray caps.toArray))
  (hargs : c.args = xs.toArray) (hvs : xs.mapM (ev F) = some vs) (hb : True = True) (hcall : Calls P f (bs ++ (vs ++ caps)).toArray w R) (k : ∀ e w,R e w → ∃ v,e = .returned v ∧ ∀ a,Has N a ((d,v)::F) → wpList P ops Q rest a w) : wpList P ops Q (⟨some d,.call c,ty,pos,aft,gd⟩::rest) a w := by
 refine wpList_step fun K hK => ?_
 rw [gval_spec hf hg,if_pos rfl]
 unfold Oper.wp
 rw [run_callB hen hf hc hx hargs hvs,Oper.upon_enter]
 refine hcall.mono fun e w' he => ?_
 obtain ⟨v,rfl,hv⟩ := k e w' he
 exact hK _ _ (hv _ (hf.put hN v))
theorem eCB {f : Nat} {c : Call} {xs : List Operand} {bs vs caps : List Value} {dd : Option Nat} (hen : En P f) (hc : c.callee = .value x) (hx : ev F x = some (.func (.func f) bs.toArray caps.toArray)) (hargs : c.args = xs.toArray) (hvs : xs.mapM (ev F) = some vs)
  (hcall : ∀ w,Ctx G L w → Calls P f (bs ++ (vs ++ caps)).toArray w fun e w' => e = .returned v ∧ Ctx G L w') : Ev P ⟨dd,.call c,ty,pos,aft,gd⟩ N F G L v := fun a w hf hcx => by
 unfold Oper.quietAt
 rw [run_callB hen hf hc hx hargs hvs]
 exact ⟨rfl,hcall w hcx⟩
theorem stMU {ν : Type} {b E K : TypeId} {kk : IntKind} {enc : ν → Value} {m : Int → Option ν} {k : Int} {z : Operand} {v : ν} (hf : Has N a F) (hc : Ctx G L w) (hg : gval ops F ⟨none,.mapUpdate T x y z,ty,pos,aft,gd⟩ = some true) (hT : P.underlying T = some (.map K E)) (hK : P.underlying K = some (.int kk))
  (hx : ev F x = some (.map (some b))) (hy : ev F y = some (.int .i64 k)) (hz : ev F z = some (enc v))
  (hu : Upd L (.im b (fun j => (m j).map enc) none) (.im b (fun j => (setM m k v j).map enc) none) L')
  (kk' : ∀ w,Ctx G L' w → wpList P ops Q rest a w) : wpList P ops Q (⟨none,.mapUpdate T x y z,ty,pos,aft,gd⟩::rest) a w := by
 refine wpList_step fun KK hKK => ?_
 rw [gval_spec hf hg,if_pos rfl]
 obtain ⟨es,clock,hb,hi⟩ := hc.sat _ hu.mem
 have hlt : b < w.heap.size := (Array.getElem?_eq_some_iff.1 hb).1
 obtain ⟨r,hr,hcase⟩ := run_findKey (P := P) hK (k := k) hi.keys w
 have hget : (getObj b).run P w = .ok (.map es clock) w := by simp [getObj,Sem.run,hb]
 rcases hcase with ⟨rfl,hn⟩ | ⟨j,e,he,hk,rfl⟩
 ·have hrun : (execOp a.eval ⟨none,.mapUpdate T x y z,ty,pos,aft,gd⟩).run P w = .ok .skip (w.putObj b (.map (es.push { key := .int .i64 k,val := enc v,born := clock }) (clock + 1))) := by
   simp [execOp,hf.ev hx,hf.ev hy,hf.ev hz,Instr.mapUpdate,run_underlying hT,hget,run_checkKey hK,hr,run_setObj_map _ hb]
  unfold Oper.wp
  rw [hrun,Oper.upon_skip]
  refine hKK _ _ (kk' _ (putEnt hc hu rfl rfl (fun w' hw' => ⟨_,_,hw',?_⟩) hlt))
  have h0 := hi.push (enc v) hn
  have h1 := h0.congr (g := fun j => (setM m k v j).map enc) (fun j => by by_cases hj : j = k <;> simp [setM,hj])
  rw [Array.toList_push]
  exact ⟨h1.keys,h1.one,h1.old,h1.some',fun s k' h => by cases h⟩
 ·have hes : es[j]? = some e := by simpa using he
  have hmod : es.modify j (fun e => { e with key := .int .i64 k,val := enc v }) = es.modify j (fun e => { e with val := enc v }) := by
   apply Array.ext'
   rw [Array.toList_modify,Array.toList_modify]
   apply List.ext_getElem?
   intro q
   rw [List.getElem?_modify,List.getElem?_modify]
   by_cases hjq : j = q
   ·subst hjq
    rw [he]
    simp
    rw [← hk]
   ·simp [hjq]
  have hrun : (execOp a.eval ⟨none,.mapUpdate T x y z,ty,pos,aft,gd⟩).run P w = .ok .skip (w.putObj b (.map (es.modify j fun e => { e with val := enc v }) clock)) := by
   simp [execOp,hf.ev hx,hf.ev hy,hf.ev hz,Instr.mapUpdate,run_underlying hT,hget,run_checkKey hK,hr,hes,hk,Instr.keyThatStays,Instr.sameBits,hmod,run_setObj_map _ hb]
  unfold Oper.wp
  rw [hrun,Oper.upon_skip]
  refine hKK _ _ (kk' _ (putEnt hc hu rfl rfl (fun w' hw' => ⟨_,_,hw',?_⟩) hlt))
  rw [Array.toList_modify]
  refine (hi.put (enc v) he hk).congr fun j => ?_
  by_cases hj : j = k <;> simp [setM,hj]

def inM (n : Int) : Option Unit := if 0 ≤ n ∧ n ≤ 1000000 then some () else none
theorem inM_spec {n : Int} {u : Unit} (h : inM n = some u) : 0 ≤ n ∧ n ≤ 1000000 := by
 unfold inM at h
 split at h
 ·assumption
 ·cases h
theorem madeCells_rows {z : Array Value} {sz : Nat} (hz : z.size = sz) (h0 : 0 < sz) (n : Nat) : madeCells z (n * sz) = (List.replicate n z.toList).flatten.toArray := by
 apply Array.ext'
 apply List.ext_getElem?
 intro k
 have hlen : (List.replicate n z.toList).flatten.length = n * sz := by
  simp [hz]
 by_cases hk : k < n * sz
 ·have hq : k / sz < n := (Nat.div_lt_iff_lt_mul h0).2 hk
  have hr : k % sz < z.toList.length := by simp [hz]; exact Nat.mod_lt _ h0
  have hkk : k / sz * sz + k % sz = k := by rw [Nat.mul_comm]; exact Nat.div_add_mod k sz
  have e1 := flatten_get (sz := sz) (r := z.toList) (u := z.toList[k % sz]) (j := k % sz) (List.getElem?_eq_getElem hr) (List.replicate n z.toList) (k / sz) (by
   intro r hr'
   rw [(List.mem_replicate.1 hr').2]
   simp [hz]) (by rw [List.getElem?_replicate,if_pos hq])
  rw [hkk] at e1
  show (madeCells z (n * sz)).toList[k]? = (List.replicate n z.toList).flatten[k]?
  rw [e1]
  unfold madeCells
  have hr' : k % sz < z.size := by rw [hz]; exact Nat.mod_lt _ h0
  simp [hk,hz]
  exact getElem!_pos z _ hr'
 ·rw [List.getElem?_eq_none (by rw [← Array.size_eq_length_toList,size_madeCells]; omega),List.getElem?_eq_none (by simpa [hlen] using hk)]
theorem stMk {e sz by' : Nat} {z : Value} {n : Int} {k1 k2 : IntKind} {m : Nat} {rows : List (List Value)} (hf : Has N a F) (hc : Ctx G L w) (hg : gval ops F ⟨some d,.makeSlice T x y,ty,pos,aft,gd⟩ = some true) (hN : Nat.blt d N.n = true)
  (hT : SlT P T e sz by' z) (hx : ev F x = some (.int k1 n)) (hy : ev F y = some (.int k2 n)) (hn : 0 ≤ n ∧ n ≤ 1000000) (hb : Nat.ble by' 1000000 = true) (hs : Nat.ble sz 16 = true) (hr : rows = List.replicate n.toNat z.cells.toList) (hm : m = n.toNat)
  (k : ∀ b a w,Has N a ((d,.slice (some ⟨b,0,none⟩) m n.toNat)::F) → Ctx G (.row (some ⟨b,0,none⟩) n.toNat rows e sz::L) w → wpList P ops Q rest a w) : wpList P ops Q (⟨some d,.makeSlice T x y,ty,pos,aft,gd⟩::rest) a w := by
 subst hm
 refine wpList_step fun K hK => ?_
 rw [gval_spec hf hg,if_pos rfl]
 obtain ⟨hu,i,hi,hz,hsz,hby,hzs,h0⟩ := hT
 have hb' : by' ≤ 1000000 := Nat.le_of_ble_eq_true hb
 have hs' : sz ≤ 16 := Nat.le_of_ble_eq_true hs
 have hN1 : n.toNat * sz ≤ 1000000 * 16 := Nat.mul_le_mul (by omega) hs'
 have hN2 : (by' : Int) * n ≤ 1000000 * 1000000 := Int.mul_le_mul (by omega) hn.2 hn.1 (by omega)
 have h := run_makeSlice (P := P) w T e i z hu hi hz k1 k2 n n hn.1 (Int.le_refl _) (by rw [hsz]; omega) (by rw [hby]; omega) (by omega)
 rw [hsz,madeCells_rows (by simpa using hzs) h0,← hr] at h
 have hr2 : (execOp a.eval ⟨some d,.makeSlice T x y,ty,pos,aft,gd⟩).run P w = .ok (.value (.slice (some ⟨w.heap.size,0,none⟩) n.toNat n.toNat)) (w.alloc (.cells rows.flatten.toArray e)) := by
  simp only [execOp,Sem.run_bind,hf.ev hx,hf.ev hy]
  rw [h]
  rfl
 unfold Oper.wp
 rw [hr2,Oper.upon_value]
 have hl : ∀ r ∈ rows,r.length = sz := by
  intro r hrm
  rw [hr] at hrm
  rw [(List.mem_replicate.1 hrm).2]
  simpa using hzs
 have hlen : rows.length = n.toNat := by rw [hr]; simp
 have hnew := hc.new (.cells rows.flatten.toArray e) (.row (some ⟨w.heap.size,0,none⟩) rows.length rows e sz) rfl ⟨hl,ownsRow_new hl (by simp only [maxLen]; omega)⟩
 rw [hlen] at hnew
 exact hK _ _ (k _ _ _ (hf.put hN _) hnew)
end steps
theorem shPerm (C A B Lf : List Ent) (e : Ent) : (C ++ ((A ++ (e::B)) ++ Lf)).Perm (e::(C ++ ((A ++ B) ++ Lf))) := by
 have h1 : (A ++ e::B).Perm (e::(A ++ B)) := List.perm_middle
 have h2 : (C ++ ((A ++ (e::B)) ++ Lf)).Perm (C ++ ((e::(A ++ B)) ++ Lf)) := (List.perm_append_left_iff C).2 ((List.perm_append_right_iff Lf).2 h1)
 exact h2.trans List.perm_middle
theorem shOut {G : Pers} {w : World} (C : List Ent) {A B Lf : List Ent} {e : Ent} (hc : Ctx G (C ++ ((A ++ (e::B)) ++ Lf)) w) : Ctx G (e::(C ++ ((A ++ B) ++ Lf))) w := hc.perm (shPerm C A B Lf e)
theorem shIn {G : Pers} {w : World} (C : List Ent) {A B Lf : List Ent} {e : Ent} (hc : Ctx G (e::(C ++ ((A ++ B) ++ Lf))) w) : Ctx G (C ++ ((A ++ (e::B)) ++ Lf)) w := hc.perm (shPerm C A B Lf e).symm
section ends
variable {P : Program} {fn : Func} {R : Ending → World → Prop} {a : Act} {w : World} {N : Fm} {F : List (Nat × Value)} {G : Pers} {L : List Ent} {r1 r2 r3 : ResultVar} {v1 v2 v3 : Value} {e : Exit}
end ends
theorem At.len {p : Option Addr} {n m sz : Nat} {i : Int} {b o : Nat} (h : At p n sz i b o) (e : n = m) : At p m sz i b o := e ▸ h
end Go.Nilo
