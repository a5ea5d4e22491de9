/-
  Calls of bound methods, and slices that are made. Conditions: none.
-/
import Derived.Test.YtakhbnnlhoninabNl14
import Derived.Laws.MakeOwn
import Derived.Laws.Cover3
set_option linter.unusedSimpArgs false
set_option linter.unusedVariables false
namespace Go.Nilo

section steps
variable {P : Program} {ops : Array Oper} {Q : Exit → Act → World → Prop} {rest : List Oper} {a : Act} {w : World} {N : Fm} {d : Nat} {F : List (Nat × Value)} {G : Pers} {L L' L'' : List Ent} {v : Value}
 {ty : TypeId} {pos : String} {aft : Array Edge} {gd : Option (Nat × Bool)} {x y : Operand} {T : TypeId}

theorem run_callB {f : Nat} {c : Call} {xs : List Operand} {bs vs caps : List Value} {a : Act} {dd : Option Nat} (hen : En P f) (hf : Has N a F) (hc : c.callee = .value x) (hx : ev F x = some (.func (.func f) bs.toArray caps.toArray)) (hargs : c.args = xs.toArray) (hvs : xs.mapM (ev F) = some vs) :
  (execOp a.eval ⟨dd,.call c,ty,pos,aft,gd⟩).run P w = .ok (.enter f (bs ++ (vs ++ caps)).toArray) w := by
 have e1 : c.args.map a.eval = vs.toArray := by rw [hargs]; apply Array.ext'; simpa using evs hf _ _ hvs
 simp only [execOp,resolve,hc,e1,hf.ev hx,Deferred.ofValue,Sem.run_bind,Sem.run_pure,Result.andThen_ok,invoke,hen _ _]
 simp
theorem stCB {f : Nat} {c : Call} {xs : List Operand} {bs vs caps : List Value} {R : Ending → World → Prop} (hf : Has N a F) (hg : gval ops F ⟨some d,.call c,ty,pos,aft,gd⟩ = some true) (hN : Nat.blt d N.n = true) (hc : c.callee = .value x) (hen : En P f) (hx : ev F x = some (.func (.func f) bs.toArray caps.toArray))
  (hargs : c.args = xs.toArray) (hvs : xs.mapM (ev F) = some vs) (hb : True = True) (hcall : Calls P f (bs ++ (vs ++ caps)).toArray w R) (k : ∀ e w,R e w → ∃ v,e = .returned v ∧ ∀ a,Has N a ((d,v)::F) → wpList P ops Q rest a w) : wpList P ops Q (⟨some d,.call c,ty,pos,aft,gd⟩::rest) a w := by
 refine wpList_step fun K hK => ?_
 rw [gval_spec hf hg,if_pos rfl]
 unfold Oper.wp
 rw [run_callB hen hf hc hx hargs hvs,Oper.upon_enter]
 refine hcall.mono fun e w' he => ?_
 obtain ⟨v,rfl,hv⟩ := k e w' he
 exact hK _ _ (hv _ (hf.put hN v))
theorem eCB {f : Nat} {c : Call} {xs : List Operand} {bs vs caps : List Value} {dd : Option Nat} (hen : En P f) (hc : c.callee = .value x) (hx : ev F x = some (.func (.func f) bs.toArray caps.toArray)) (hargs : c.args = xs.toArray) (hvs : xs.mapM (ev F) = some vs)
  (hcall : ∀ w,Ctx G L w → Calls P f (bs ++ (vs ++ caps)).toArray w fun e w' => e = .returned v ∧ Ctx G L w') : Ev P ⟨dd,.call c,ty,pos,aft,gd⟩ N F G L v := fun a w hf hcx => by
 unfold Oper.quietAt
 rw [run_callB hen hf hc hx hargs hvs]
 exact ⟨rfl,hcall w hcx⟩
theorem stMU {ν : Type} {b E K : TypeId} {kk : IntKind} {enc : ν → Value} {m : Int → Option ν} {k : Int} {z : Operand} {v : ν} (hf : Has N a F) (hc : Ctx G L w) (hg : gval ops F ⟨none,.mapUpdate T x y z,ty,pos,aft,gd⟩ = some true) (hT : P.underlying T = some (.map K E)) (hK : P.underlying K = some (.int kk))
  (hx : ev F x = some (.map (some b))) (hy : ev F y = some (.int .i64 k)) (hz : ev F z = some (enc v))
  (hu : Upd L (.im b (fun j => (m j).map enc) none) (.im b (fun j => (setM m k v j).map enc) none) L')
  (kk' : ∀ w,Ctx G L' w → wpList P ops Q rest a w) : wpList P ops Q (⟨none,.mapUpdate T x y z,ty,pos,aft,gd⟩::rest) a w := by
 refine wpList_step fun KK hKK => ?_
 rw [gval_spec hf hg,if_pos rfl]
 obtain ⟨es,clock,hb,hi⟩ := hc.sat _ hu.mem
 have hlt : b < w.heap.size := (Array.getElem?_eq_some_iff.1 hb).1
 obtain ⟨r,hr,hcase⟩ := run_findKey (P := P) hK (k := k) hi.keys w
 have hget : (getObj b).run P w = .ok (.map es clock) w := by simp [getObj,Sem.run,hb]
 rcases hcase with ⟨rfl,hn⟩ | ⟨j,e,he,hk,rfl⟩
 ·have hrun : (execOp a.eval ⟨none,.mapUpdate T x y z,ty,pos,aft,gd⟩).run P w = .ok .skip (w.putObj b (.map (es.push { key := .int .i64 k,val := enc v,born := clock }) (clock + 1))) := by
   simp [execOp,hf.ev hx,hf.ev hy,hf.ev hz,Instr.mapUpdate,run_underlying hT,hget,run_checkKey hK,hr,run_setObj_map _ hb]
  unfold Oper.wp
  rw [hrun,Oper.upon_skip]
  refine hKK _ _ (kk' _ (putEnt hc hu rfl rfl (fun w' hw' => ⟨_,_,hw',?_⟩) hlt))
  have h0 := hi.push (enc v) hn
  have h1 := h0.congr (g := fun j => (setM m k v j).map enc) (fun j => by by_cases hj : j = k <;> simp [setM,hj])
  rw [Array.toList_push]
  exact ⟨h1.keys,h1.one,h1.old,h1.some',fun s k' h => by cases h⟩
 ·have hes : es[j]? = some e := by simpa using he
  have hmod : es.modify j (fun e => { e with key := .int .i64 k,val := enc v }) = es.modify j (fun e => { e with val := enc v }) := by
   apply Array.ext'
   rw [Array.toList_modify,Array.toList_modify]
   apply List.ext_getElem?
   intro q
   rw [List.getElem?_modify,List.getElem?_modify]
   by_cases hjq : j = q
   ·subst hjq
    rw [he]
    simp
    rw [← hk]
   ·simp [hjq]
  have hrun : (execOp a.eval ⟨none,.mapUpdate T x y z,ty,pos,aft,gd⟩).run P w = .ok .skip (w.putObj b (.map (es.modify j fun e => { e with val := enc v }) clock)) := by
   simp [execOp,hf.ev hx,hf.ev hy,hf.ev hz,Instr.mapUpdate,run_underlying hT,hget,run_checkKey hK,hr,hes,hk,Instr.keyThatStays,Instr.sameBits,hmod,run_setObj_map _ hb]
  unfold Oper.wp
  rw [hrun,Oper.upon_skip]
  refine hKK _ _ (kk' _ (putEnt hc hu rfl rfl (fun w' hw' => ⟨_,_,hw',?_⟩) hlt))
  rw [Array.toList_modify]
  refine (hi.put (enc v) he hk).congr fun j => ?_
  by_cases hj : j = k <;> simp [setM,hj]

end steps
theorem shPerm (C A B Lf : List Ent) (e : Ent) : (C ++ ((A ++ (e::B)) ++ Lf)).Perm (e::(C ++ ((A ++ B) ++ Lf))) := by
 have h1 : (A ++ e::B).Perm (e::(A ++ B)) := List.perm_middle
 have h2 : (C ++ ((A ++ (e::B)) ++ Lf)).Perm (C ++ ((e::(A ++ B)) ++ Lf)) := (List.perm_append_left_iff C).2 ((List.perm_append_right_iff Lf).2 h1)
 exact h2.trans List.perm_middle
theorem shOut {G : Pers} {w : World} (C : List Ent) {A B Lf : List Ent} {e : Ent} (hc : Ctx G (C ++ ((A ++ (e::B)) ++ Lf)) w) : Ctx G (e::(C ++ ((A ++ B) ++ Lf))) w := hc.perm (shPerm C A B Lf e)
theorem shIn {G : Pers} {w : World} (C : List Ent) {A B Lf : List Ent} {e : Ent} (hc : Ctx G (e::(C ++ ((A ++ B) ++ Lf))) w) : Ctx G (C ++ ((A ++ (e::B)) ++ Lf)) w := hc.perm (shPerm C A B Lf e).symm
section ends
variable {P : Program} {fn : Func} {R : Ending → World → Prop} {a : Act} {w : World} {N : Fm} {F : List (Nat × Value)} {G : Pers} {L : List Ent} {r1 r2 r3 : ResultVar} {v1 v2 v3 : Value} {e : Exit}
end ends
theorem At.len {p : Option Addr} {n m sz : Nat} {i : Int} {b o : Nat} (h : At p n sz i b o) (e : n = m) : At p m sz i b o := e ▸ h
end Go.Nilo
