/-
  Slices of the call's own that lie anywhere in their block; shifts by one. Conditions: none.
-/
import Derived.Test.YtfacdlbpakdcfaaNl31
set_option linter.unusedSimpArgs false
set_option linter.unusedVariables false
namespace Go.Nilo
def OwnO (w : World) (T sz : Nat) (p : Option Addr) (n cap : Nat) (xs : List Value) : Prop :=
 xs.length = n * sz ∧ ((p = none ∧ n = 0 ∧ cap = 0) ∨
  ∃ g o cur,p = some ⟨g,o,none⟩ ∧ w.heap[g]? = some (.cells cur T (0,0)) ∧ n ≤ cap ∧ cap ≤ maxLen ∧ o + cap * sz ≤ cur.size ∧ (cur.toList.drop o).take (n * sz) = xs)

def Ent.rowo (p : Option Addr) (cap : Nat) (rows : List (List Value)) (T sz : Nat) : Ent :=
 .grp (fun c => p.map (·.block) = some c) (fun w => (∀ r ∈ rows,r.length = sz) ∧ OwnO w T sz p rows.length cap rows.flatten)

theorem rowo_sat {w : World} {p : Option Addr} {cap : Nat} {rows : List (List Value)} {T sz : Nat} (h1 : ∀ r ∈ rows,r.length = sz) (h2 : OwnO w T sz p rows.length cap rows.flatten) : (Ent.rowo p cap rows T sz).sat w := by
 refine ⟨⟨h1,h2⟩,?_,?_⟩
 ·intro b hb
  rcases h2.2 with ⟨hp,_⟩ | ⟨g,o,cur,hp,hh,_⟩
  ·subst hp; simp at hb
  ·subst hp
   simp at hb
   subst hb
   exact (Array.getElem?_eq_some_iff.1 hh).1
 ·intro w' hw
  refine ⟨h1,h2.1,?_⟩
  rcases h2.2 with h | ⟨g,o,cur,hp,hh,h3⟩
  ·exact .inl h
  ·refine .inr ⟨g,o,cur,hp,?_,h3⟩
   rw [hw g (by subst hp; rfl)]
   exact hh

theorem row_rowo {w : World} {p : Option Addr} {cap : Nat} {rows : List (List Value)} {T sz : Nat} (h : (Ent.row p cap rows T sz).sat w) : (Ent.rowo p cap rows T sz).sat w := by
 obtain ⟨h1,h2,h3⟩ := h
 refine rowo_sat h1 ⟨h2,?_⟩
 rcases h3 with ⟨hv,h0⟩ | ⟨g,cap',cur,hv,_,hh,hnc,hcm,hcs,htk⟩
 ·simp only [Value.slice.injEq] at hv
  exact .inl ⟨hv.1,h0,hv.2.2⟩
 ·simp only [Value.slice.injEq] at hv
  obtain ⟨rfl,-,rfl⟩ := hv
  exact .inr ⟨g,0,cur,rfl,hh,hnc,hcm,by omega,by simpa using htk⟩

theorem Ctx.toO {G : Pers} {L L' : List Ent} {w : World} {p : Option Addr} {cap : Nat} {rows : List (List Value)} {T sz : Nat} (h : Ctx G L w) (hu : Upd L (.row p cap rows T sz) (.rowo p cap rows T sz) L') : Ctx G L' w :=
 h.updAt hu rfl rfl rfl (Nat.le_refl _) (fun _ _ _ => rfl) (row_rowo (h.sat _ hu.mem)) (fun b hb => .inl (by simpa [Ent.rowo,Ent.own] using hb))

theorem Ctx.nilRowO {G : Pers} {L : List Ent} {w : World} (h : Ctx G L w) (T sz : Nat) : Ctx G (.rowo none 0 [] T sz::L) w := (h.nilRow T sz).toO .here

theorem rowo_own {G : Pers} {L : List Ent} {w : World} {p : Option Addr} {cap T sz : Nat} {rows : List (List Value)} (hc : Ctx G L w) (he : Sees L (Ent.rowo p cap rows T sz)) : (∀ r ∈ rows,r.length = sz) ∧ OwnO w T sz p rows.length cap rows.flatten :=
 (he _ _ hc).1

theorem row_atO {G : Pers} {L : List Ent} {w : World} {p : Option Addr} {cap T sz : Nat} {rows : List (List Value)} (hc : Ctx G L w) (he : Sees L (Ent.rowo p cap rows T sz)) {i : Int} {r : List Value} (hi : 0 ≤ i) (hr : rows[i.toNat]? = some r) :
  ∃ g o,p = some ⟨g,o,none⟩ ∧ At p rows.length sz i g (o + i.toNat * sz) := by
 obtain ⟨-,-,hown⟩ := rowo_own hc he
 have hlt := (List.getElem?_eq_some_iff.1 hr).1
 rcases hown with ⟨_,h0,_⟩ | ⟨g,o,cur,hp,-⟩
 ·omega
 ·exact ⟨g,o,hp,hi,by omega,_,hp,by simp [Addr.add_lit]⟩

theorem row_atmO {α : Type} {enc : α → List Value} {G : Pers} {L : List Ent} {w : World} {p : Option Addr} {cap T sz : Nat} {xs : List α} {i : Int} {x : α} (hc : Ctx G L w) (he : Sees L (Ent.rowo p cap (xs.map enc) T sz)) (hx : getI xs i = some x) :
  ∃ g o,p = some ⟨g,o,none⟩ ∧ At (some ⟨g,o,none⟩) xs.length sz i g (o + i.toNat * sz) ∧ (xs.map enc)[i.toNat]? = some (enc x) := by
 obtain ⟨h0,hx⟩ := getI_spec hx
 have hr : (xs.map enc)[i.toNat]? = some (enc x) := by simp [hx]
 obtain ⟨g,o,h1,h2⟩ := row_atO hc he h0 hr
 subst h1
 exact ⟨g,o,rfl,by simpa using h2,hr⟩
theorem row_atkO {α : Type} {enc : α → List Value} {G : Pers} {L : List Ent} {w : World} {g o : Nat} {cap T sz : Nat} {xs : List α} {i : Int} {x : α} (hc : Ctx G L w) (he : Sees L (Ent.rowo (some ⟨g,o,none⟩) cap (xs.map enc) T sz)) (hx : getI xs i = some x) :
  At (some ⟨g,o,none⟩) xs.length sz i g (o + i.toNat * sz) ∧ (xs.map enc)[i.toNat]? = some (enc x) := by
 obtain ⟨g',o',h1,h2,h3⟩ := row_atmO hc he hx
 simp only [Option.some.injEq,Addr.mk.injEq,and_true] at h1
 obtain ⟨rfl,rfl⟩ := h1
 exact ⟨h2,h3⟩

theorem cell_rowO {G : Pers} {L : List Ent} {g o cap T sz i j : Nat} {rows : List (List Value)} {r : List Value} {u : Value} (he : Sees L (Ent.rowo (some ⟨g,o,none⟩) cap rows T sz)) (hr : rows[i]? = some r) (hu : r[j]? = some u) :
  CellIn G L ⟨g,o + i * sz + j,none⟩ u := fun w hc => by
 obtain ⟨hl,hlen,hown⟩ := rowo_own hc he
 have hfl := flatten_get hu rows i hl hr
 rcases hown with ⟨h0,_⟩ | ⟨g',o',cur,hp,hh,-,-,-,htk⟩
 ·cases h0
 ·simp only [Option.some.injEq,Addr.mk.injEq,and_true] at hp
  obtain ⟨rfl,rfl⟩ := hp
  rw [← htk] at hfl
  rw [List.getElem?_take] at hfl
  split at hfl
  ·rw [List.getElem?_drop] at hfl
   simp only [World.cell?,hh]
   rw [Nat.add_assoc]
   simpa using hfl
  ·cases hfl

theorem cells_rwO {G : Pers} {L : List Ent} {g o cap T sz i n o' : Nat} {rows : List (List Value)} {r vs : List Value} (he : Sees L (Ent.rowo (some ⟨g,o,none⟩) cap rows T sz)) (hr : rows[i]? = some r) (ho : (r.drop o').take n = vs) :
  ∀ j u,vs[j]? = some u → CellIn G L ⟨g,o + i * sz + o' + j,none⟩ u := fun j u hu => by
 subst ho
 rw [List.getElem?_take] at hu
 split at hu
 ·rw [List.getElem?_drop] at hu
  rw [Nat.add_assoc _ o' j]
  exact cell_rowO he hr hu
 ·cases hu

theorem flat_lenO {α : Type} {enc : α → List Value} {sz : Nat} (hz : ∀ x,(enc x).length = sz) : ∀ (l : List α),((l.map enc).flatten).length = l.length * sz
 | [] => by simp
 | y::l => by simp only [List.map_cons,List.flatten_cons,List.length_append,hz,flat_lenO hz l,List.length_cons,Nat.succ_mul]; omega

theorem spl_flat {α : Type} {enc : α → List Value} {sz o' : Nat} {e z : α} {vs : List Value} (hz : ∀ x,(enc x).length = sz) (hl : o' + vs.length ≤ sz) (hn : spl (enc e) o' vs = enc z) : ∀ (ys : List α) (q : Nat),q < ys.length → (hq : ys[q]? = some e) → spl ((ys.map enc).flatten) (q * sz + o') vs = ((ys.set q z).map enc).flatten := by
 intro ys
 induction ys with
 | nil => intro q hq; simp at hq
 | cons y ys ih =>
  intro q hq hqe
  cases q with
  | zero =>
   simp at hqe
   subst hqe
   simp only [List.map_cons,List.flatten_cons,List.set_cons_zero,Nat.zero_mul,Nat.zero_add]
   rw [spl_app_left _ _ _ _ (by rw [hz]; omega),hn]
  | succ q =>
   simp only [List.map_cons,List.flatten_cons,List.set_cons_succ]
   have e1 : (q + 1) * sz + o' = (enc y).length + (q * sz + o') := by rw [hz,Nat.succ_mul]; omega
   rw [e1,spl_app_right,ih q (by simpa using hq) (by simpa using hqe)]

section steps
variable {P : Program} {ops : Array Oper} {Q : Exit → Act → World → Prop} {rest : List Oper} {a : Act} {w : World} {N : Fm} {d : Nat} {F : List (Nat × Value)} {G : Pers} {L L' L'' : List Ent} {v : Value}
 {ty : TypeId} {pos : String} {aft : Array Edge} {gd : Option (Nat × Bool)} {x y : Operand} {T : TypeId}
theorem stRwO {α : Type} {g o cap T0 sz o' : Nat} {i : Int} {enc : α → List Value} {xs : List α} {z : α} {vs : List Value} {u : Value} (hf : Has N a F) (hc : Ctx G L w) (hg : gval ops F ⟨none,.store T x y,ty,pos,aft,gd⟩ = some true) (hx : ev F x = some (.pointer (some ⟨g,o + i.toNat * sz + o',none⟩))) (hy : ev F y = some u)
  (hv : u.cells = vs.toArray) (hs : (P.info? T).map (·.size) = some vs.length) (h1 : ones vs = true) (hz : ∀ x,(enc x).length = sz) (hlt : i.toNat < xs.length) (hn : ∀ e,xs[i.toNat]? = some e → spl (enc e) o' vs = enc z) (hl : Nat.ble (o' + vs.length) sz = true)
  (hu : Upd L (.rowo (some ⟨g,o,none⟩) cap (xs.map enc) T0 sz) (.rowo (some ⟨g,o,none⟩) cap ((xs.set i.toNat z).map enc) T0 sz) L')
  (k : ∀ w,Ctx G L' w → wpList P ops Q rest a w) : wpList P ops Q (⟨none,.store T x y,ty,pos,aft,gd⟩::rest) a w := by
 have hl' : o' + vs.length ≤ sz := by simpa using hl
 obtain ⟨e,hge⟩ : ∃ e,xs[i.toNat]? = some e := ⟨_,List.getElem?_eq_getElem hlt⟩
 replace hn := hn e hge
 refine wpList_step fun K hK => ?_
 rw [gval_spec hf hg,if_pos rfl]
 obtain ⟨⟨hlen,hfl,hown⟩,-,-⟩ := hc.sat _ hu.mem
 rcases hown with ⟨hn',_⟩ | ⟨g',o1,cur,hval,hh,hnc,hcm,hcs,htk⟩
 ·cases hn'
 ·simp only [Option.some.injEq,Addr.mk.injEq,and_true] at hval
  obtain ⟨rfl,rfl⟩ := hval
  have hh' : w.heap[g]? = some (.cells cur.toList.toArray T0 (0,0)) := by simpa using hh
  have hle : (i.toNat + 1) * sz ≤ (xs.map enc).length * sz := Nat.mul_le_mul_right _ (by simp; omega)
  rw [Nat.succ_mul] at hle
  have hcl : o + (xs.map enc).length * sz ≤ cur.toList.length := by
   have h1 := Nat.mul_le_mul_right sz hnc
   have h2 : cur.toList.length = cur.size := Array.length_toList
   omega
  obtain ⟨w',hr,hw,hwr⟩ := run_storeVar_box (P := P) (o := o + i.toNat * sz + o') hh' hs hv (by omega) (by simpa [ones] using h1)
  have hr' : (execOp a.eval ⟨none,.store T x y,ty,pos,aft,gd⟩).run P w = .ok .skip w' := by
   simp [execOp,hf.ev hx,hf.ev hy,Instr.storeAt,Instr.sureAddr,hr]
  unfold Oper.wp
  rw [hr',Oper.upon_skip]
  refine hK _ _ (k w' (hc.updAt hu hwr.os hwr.tape hwr.output (by rw [hwr.size]; exact Nat.le_refl _) (fun b _ hb => hwr.block b (fun e => hb (by subst e; simp [Ent.own,Ent.rowo]))) ?_ (fun b hb => .inl (by simpa [Ent.own,Ent.rowo] using hb))))
  have hfl' : ((xs.map enc).flatten).length = (xs.map enc).length * sz := hfl
  have hA : (cur.toList.drop o) = (xs.map enc).flatten ++ (cur.toList.drop o).drop ((xs.map enc).length * sz) := by
   conv => lhs; rw [← List.take_append_drop ((xs.map enc).length * sz) (cur.toList.drop o)]
   rw [htk]
  have hcur : cur.toList = cur.toList.take o ++ ((xs.map enc).flatten ++ (cur.toList.drop o).drop ((xs.map enc).length * sz)) := by
   rw [← hA]; exact (List.take_append_drop _ _).symm
  have hol : (cur.toList.take o).length = o := by rw [List.length_take]; omega
  have hspl : spl cur.toList (o + i.toNat * sz + o') vs = cur.toList.take o ++ (((xs.set i.toNat z).map enc).flatten ++ (cur.toList.drop o).drop ((xs.map enc).length * sz)) := by
   have hB : ∀ (A B : List Value),A.length = o → i.toNat * sz + o' + vs.length ≤ ((xs.map enc).flatten).length → spl (A ++ ((xs.map enc).flatten ++ B)) (o + i.toNat * sz + o') vs = A ++ (((xs.set i.toNat z).map enc).flatten ++ B) := by
    intro A B hA hlen
    have e1 : o + i.toNat * sz + o' = A.length + (i.toNat * sz + o') := by omega
    rw [e1,spl_app_right,spl_app_left _ _ _ _ (by omega),spl_flat hz hl' hn xs i.toNat hlt hge]
   conv => lhs; rw [hcur]
   exact hB _ _ hol (by rw [hfl']; omega)
  refine rowo_sat ?_ ⟨?_,.inr ⟨g,o,(spl cur.toList (o + i.toNat * sz + o') vs).toArray,rfl,hw,?_,hcm,?_,?_⟩⟩
  ·intro r hr
   obtain ⟨y,-,rfl⟩ := List.mem_map.1 hr
   rw [hz]
  ·rw [flat_lenO hz]; simp
  ·simpa using hnc
  ·simp only [List.size_toArray,spl_length]
   simpa using hcs
  ·rw [List.toList_toArray,hspl]
   have e2 : (cur.toList.take o ++ (((xs.set i.toNat z).map enc).flatten ++ (cur.toList.drop o).drop ((xs.map enc).length * sz))).drop o = ((xs.set i.toNat z).map enc).flatten ++ (cur.toList.drop o).drop ((xs.map enc).length * sz) := by
    rw [List.drop_append_of_le_length (by omega)]
    rw [List.drop_of_length_le (by omega),List.nil_append]
   rw [e2]
   have hlen2 : (((xs.set i.toNat z).map enc).flatten).length = (((xs.set i.toNat z).map enc).length) * sz := by rw [flat_lenO hz]; simp
   rw [← hlen2,List.take_left]
theorem run_append_rowO {P : Program} {w : World} {T ty e sz by' : Nat} {z : Value} (hT : SlT P T e sz by' z) {p q : Option Addr} {cap c : Nat} {rows news : List (List Value)} (hrows : ∀ r ∈ rows,r.length = sz)
  (hown : OwnO w e sz p rows.length cap rows.flatten) (hnl : ∀ r ∈ news,r.length = sz) (hsrc : Src w q news) (h1 : ∀ u ∈ news.flatten,u.oneCell' = true)
  (hlen : (rows ++ news).length ≤ 1000000) (hby : by' ≤ 100000000) :
  ∃ p' cap' w',(Builtin.append_ #[T,T] ty #[.slice p rows.length cap,.slice q news.length c]).run P w = .ok (.slice p' (rows ++ news).length cap') w' ∧
   OwnO w' e sz p' (rows ++ news).length cap' (rows ++ news).flatten ∧ w.grownBy w' (p.map (·.block)) ∧ (∀ b,p'.map (·.block) = some b → p.map (·.block) = some b ∨ w.heap.size ≤ b) := by
 have hw0 : ∀ {w' : World} {p' : Option Addr} {n cap' : Nat} {xs : List Value},w'.ownsRow 0 e sz (.slice p' n cap') n xs → OwnO w' e sz p' n cap' xs := by
  intro w' p' n cap' xs h
  obtain ⟨h2,h3⟩ := h
  refine ⟨h2,?_⟩
  rcases h3 with ⟨hv,h0⟩ | ⟨g,cap'',cur,hv,_,hh,hnc,hcm,hcs,htk⟩
  ·simp only [Value.slice.injEq] at hv
   exact .inl ⟨hv.1,h0,hv.2.2⟩
  ·simp only [Value.slice.injEq] at hv
   obtain ⟨rfl,-,rfl⟩ := hv
   exact .inr ⟨g,0,cur,rfl,hh,hnc,hcm,by omega,by simpa using htk⟩
 rcases hown.2 with ⟨hp,h0,hc0⟩ | ⟨g,o,cur,hp,hg,hnc,hcm,hcs,htake⟩
 ·subst hp
  have hr : rows = [] := List.eq_nil_of_length_eq_zero h0
  subst hr
  subst hc0
  obtain ⟨p',cap',w',a1,a2,a3,a4⟩ := run_append_row (P := P) (ty := ty) (c := c) hT (p := none) (cap := 0) (q := q) (rows := []) hrows (World.ownsRow_nil w 0 e sz) hnl hsrc h1 hlen hby
  exact ⟨p',cap',w',a1,hw0 a2,a3,a4⟩
 ·subst hp
  obtain ⟨hu,i,hi,hz,hs,hb,hzs,hsz⟩ := hT
  subst hs
  subst hb
  have hlen' : rows.length + news.length ≤ 1000000 := by simpa using hlen
  have hbytes : (rows.length + news.length) * i.bytes ≤ 140737488355328 := Nat.le_trans (Nat.mul_le_mul hlen' hby) (by decide)
  have hfl := rows_flatten_length rows hrows
  have hnfl := rows_flatten_length news hnl
  have hall : (rows ++ news).flatten.length = (rows.length + news.length) * i.size := by simp [hfl,hnfl,Nat.add_mul]
  simp only [List.length_append,List.flatten_append]
  by_cases hn0 : news = []
  ·subst hn0
   simp only [List.length_nil,Nat.add_zero,List.flatten_nil,List.append_nil]
   refine ⟨some ⟨g,o,none⟩,cap,w,?_,⟨hfl,.inr ⟨g,o,cur,rfl,hg,hnc,hcm,hcs,htake⟩⟩,⟨rfl,rfl,rfl,Nat.le_refl _,fun _ _ _ => rfl⟩,fun b hb => .inl hb⟩
   cases q <;> simp [Builtin.append_,run_underlying hu,Go.sizeOf,typeInfo,hi,Builtin.lenOf,Builtin.firstCells,loadCells,loadCellsFrom,hnc,storeCells]
  ·obtain ⟨ad,hq,hsrc'⟩ := hsrc.resolve_left hn0
   subst hq
   have hm : 0 < news.length := by cases news with | nil => exact absurd rfl hn0 | cons _ _ => simp
   by_cases hroom : rows.length + news.length ≤ cap
   ·have hle := Nat.mul_le_mul_right i.size hroom
    rw [Nat.add_mul] at hle
    have hfit : o + rows.length * i.size + news.flatten.length ≤ cur.size := by rw [hnfl]; omega
    have hf := run_firstCells_some (P := P) w i.size news.length ad news.length c news.flatten hnfl hsrc'
    have hst := run_storeCells_at P g (o + rows.length * i.size) e news.flatten 0 cur w hg (by simpa using hfit) h1
    simp only [Nat.add_zero] at hst
    have hr : (Builtin.append_ #[T,T] ty #[.slice (some ⟨g,o,none⟩) rows.length cap,.slice (some ad) news.length c]).run P w =
      .ok (.slice (some ⟨g,o,none⟩) (rows.length + news.length) cap) (w.setRow g (cur.toList.take (o + rows.length * i.size) ++ news.flatten ++ cur.toList.drop (o + rows.length * i.size + news.flatten.length)).toArray) := by
     simp [Builtin.append_,run_underlying hu,sizeOf,typeInfo,hi,Builtin.lenOf,hroom,hf,Addr.add_lit,hst]
    refine ⟨some ⟨g,o,none⟩,cap,_,hr,⟨by simpa using hall,.inr ⟨g,o,(cur.toList.take (o + rows.length * i.size) ++ news.flatten ++ cur.toList.drop (o + rows.length * i.size + news.flatten.length)).toArray,rfl,setRow_heap w g cur _ e _ hg,hroom,hcm,?_,?_⟩⟩,⟨rfl,rfl,rfl,by simp,fun k _ hk => setRow_other w g k _ (fun e => hk (by simp [e]))⟩,fun b hb => .inl hb⟩
    ·have hsz' : cur.size = cur.toList.length := Array.length_toList.symm
     simp only [List.size_toArray,List.length_append,List.length_take,List.length_drop]
     omega
    ·have hsz' : cur.size = cur.toList.length := Array.length_toList.symm
     have hall' : (rows.flatten ++ news.flatten).length = (rows.length + news.length) * i.size := by rw [← hall,List.flatten_append]
     have ht : cur.toList.take (o + rows.length * i.size) = cur.toList.take o ++ rows.flatten := by
      rw [← htake,List.take_add]
     rw [List.toList_toArray,ht,List.append_assoc,List.append_assoc,List.drop_append_of_le_length (by simp; omega),List.drop_of_length_le (by simp; omega),List.nil_append,← List.append_assoc,← hall']
     exact List.take_left
   ·have holds : ∀ j u,rows.flatten[j]? = some u → w.cell? ((⟨g,o,none⟩ : Addr).add j) = some u := by
     intro j u hj
     rw [← htake,List.getElem?_take] at hj
     split at hj
     ·rw [List.getElem?_drop] at hj
      simp only [World.cell?,Addr.add_lit,hg]
      simpa using hj
     ·cases hj
    have hr := run_append_grow (P := P) w T ty e i z hu hi hz ⟨g,o,none⟩ rows.length cap rows.flatten hfl holds ad news.length c news.flatten hnfl hsrc' (by omega) (by omega) (growslice_fits (by omega) hbytes)
    have hge := grownCap_ge w (rows.length + news.length) cap e
    have hcm' := grownCap_le_maxLen w (rows.length + news.length) cap e (by simp only [maxLen]; omega)
    refine ⟨_,_,_,hr,hw0 ⟨by simpa using hall,.inr ⟨w.heap.size,_,_,rfl,Nat.zero_le _,heap_alloc_new w.drew _,hge,hcm',?_,?_⟩⟩,⟨rfl,rfl,rfl,by simp,fun k hk _ => Go.heap_alloc_old w.drew _ hk⟩,fun b hb => by simp at hb; exact .inr (by omega)⟩
    ·simp only [Array.size_append,List.size_toArray,size_zeroCells,hzs,hfl,hnfl,← Nat.add_mul]
     congr 1
     omega
    ·have hall' : (rows.flatten ++ news.flatten).length = (rows.length + news.length) * i.size := by rw [← hall,List.flatten_append]
     simp only [Array.toList_append,List.append_assoc]
     rw [← List.append_assoc,← hall']
     exact List.take_left
theorem stApO {e sz by' n m cap c : Nat} {z : Value} {p q : Option Addr} {rows news : List (List Value)} {L2 : Option Addr → Nat → List Ent} (hf : Has N a F) (hc : Ctx G L w) (hg : gval ops F ⟨some d,.call { callee := .builtin .append,args := #[x,y],argTypes := #[T,T] },ty,pos,aft,gd⟩ = some true)
  (hN : Nat.blt d N.n = true) (hT : SlT P T e sz by' z) (hby : Nat.ble by' 100000000 = true) (hx : ev F x = some (.slice p n cap)) (hn : n = rows.length) (hy : ev F y = some (.slice q m c)) (hm : m = news.length) (hnl : ∀ r ∈ news,r.length = sz ∧ ones r = true)
  (hsrc : Src w q news) (hu : ∀ p' c',Upd L (.rowo p cap rows e sz) (.rowo p' c' (rows ++ news) e sz) (L2 p' c')) (hlen : (rows ++ news).length ≤ 1000000)
  (k : ∀ p' cap' a w,Has N a ((d,.slice p' (rows ++ news).length cap')::F) → Ctx G (L2 p' cap') w → wpList P ops Q rest a w) :
  wpList P ops Q (⟨some d,.call { callee := .builtin .append,args := #[x,y],argTypes := #[T,T] },ty,pos,aft,gd⟩::rest) a w := by
 subst hn
 subst hm
 obtain ⟨⟨hrl,hown⟩,-,-⟩ := hc.sat _ (hu none 0).mem
 obtain ⟨p',cap',w',hr,hown',hgr,hfoot⟩ := run_append_rowO (P := P) (ty := ty) (c := c) hT hrl hown (fun r h => (hnl r h).1) hsrc
  (fun u hu => by obtain ⟨r,hr,hu⟩ := List.mem_flatten.1 hu; have := (hnl r hr).2; simp only [ones,List.all_eq_true] at this; exact this u hu) hlen (by simpa using hby)
 refine wpList_step fun K hK => ?_
 rw [gval_spec hf hg,if_pos rfl]
 have hr' : (execOp a.eval ⟨some d,.call { callee := .builtin .append,args := #[x,y],argTypes := #[T,T] },ty,pos,aft,gd⟩).run P w = .ok (.value (.slice p' (rows ++ news).length cap')) w' := by
  simp only [execOp,resolve,List.map_toArray,List.map_cons,List.map_nil,hf.ev hx,hf.ev hy,Sem.run_bind,Sem.run_pure,Result.andThen_ok,invoke,builtin,hr]
 unfold Oper.wp
 rw [hr',Oper.upon_value]
 refine hK _ _ (k _ _ _ _ (hf.put hN _) (hc.updAt (hu p' cap') hgr.os hgr.tape hgr.output hgr.size (fun b hb hne => hgr.block b hb (fun e => hne (by simpa [Ent.rowo,Ent.own] using e.symm))) (rowo_sat ?_ hown') (fun b hb => by simpa [Ent.rowo,Ent.own] using hfoot b (by simpa [Ent.rowo,Ent.own] using hb))))
 intro r hr
 rcases List.mem_append.1 hr with h | h
 ·exact hrl r h
 ·exact (hnl r h).1

theorem stApmO {α : Type} {enc : α → List Value} {xs ys : List α} {e sz by' n m cap c : Nat} {z : Value} {p q : Option Addr} {L2 : Option Addr → Nat → List Ent} (hf : Has N a F) (hc : Ctx G L w) (hg : gval ops F ⟨some d,.call { callee := .builtin .append,args := #[x,y],argTypes := #[T,T] },ty,pos,aft,gd⟩ = some true)
  (hN : Nat.blt d N.n = true) (hT : SlT P T e sz by' z) (hby : Nat.ble by' 100000000 = true) (hx : ev F x = some (.slice p n cap)) (hn : n = xs.length) (hy : ev F y = some (.slice q m c)) (hm : m = ys.length) (hnl : ∀ x,(enc x).length = sz ∧ ones (enc x) = true)
  (hsrc : Src w q (ys.map enc)) (hu : ∀ p' c',Upd L (.rowo p cap (xs.map enc) e sz) (.rowo p' c' ((xs ++ ys).map enc) e sz) (L2 p' c')) (hlen : (xs ++ ys).length ≤ 1000000)
  (k : ∀ p' cap' a w,Has N a ((d,.slice p' (xs ++ ys).length cap')::F) → Ctx G (L2 p' cap') w → wpList P ops Q rest a w) :
  wpList P ops Q (⟨some d,.call { callee := .builtin .append,args := #[x,y],argTypes := #[T,T] },ty,pos,aft,gd⟩::rest) a w := by
 refine stApO (rows := xs.map enc) (news := ys.map enc) (L2 := L2) hf hc hg hN hT hby hx (by simpa using hn) hy (by simpa using hm) ?_ hsrc ?_ (by simpa using hlen) ?_
 ·intro r hr
  obtain ⟨y,-,rfl⟩ := List.mem_map.1 hr
  exact hnl y
 ·intro p' c'
  rw [← List.map_append]
  exact hu p' c'
 ·intro p' c' a w hf hc
  refine k p' c' a w ?_ hc
  rw [← List.map_append,List.length_map] at hf
  exact hf

theorem src_rowO {p : Option Addr} {cap T' sz : Nat} {rows : List (List Value)} (hc : Ctx G L w) (he : Sees L (Ent.rowo p cap rows T' sz)) : Src w p rows := by
 obtain ⟨hl,hlen,hown⟩ := rowo_own hc he
 rcases hown with ⟨_,h0,_⟩ | ⟨g,o,cur,hp,hh,-,-,-,htk⟩
 ·exact .inl (List.eq_nil_of_length_eq_zero h0)
 ·subst hp
  refine .inr ⟨_,rfl,fun j u hj => ?_⟩
  rw [← htk,List.getElem?_take] at hj
  split at hj
  ·rw [List.getElem?_drop] at hj
   simp only [World.cell?,Addr.add_lit,hh]
   simpa using hj
  ·cases hj
theorem stBSO {e sz by' n : Nat} {z : Value} {ps : Array (Nat × Operand)} {vs : List (Nat × Value)} {rows : List (List Value)} (hf : Has N a F) (hc : Ctx G L w) (hg : gval ops F ⟨some d,.buildSlice T n ps,ty,pos,aft,gd⟩ = some true) (hN : Nat.blt d N.n = true)
  (hT : SlT P T e sz by' z) (h1 : ps.toList.mapM (fun q => (ev F q.2).map fun v => (q.1,v)) = some vs) (hp : parts sz 0 vs rows) (hn : rows.length = n)
  (hsmall : Nat.ble (rows.length * sz + rows.length) 16777216 = true)
  (k : ∀ b a w,Has N a ((d,.slice (some ⟨b,0,none⟩) n n)::F) → Ctx G (.rowo (some ⟨b,0,none⟩) n rows e sz::L) w → wpList P ops Q rest a w) : wpList P ops Q (⟨some d,.buildSlice T n ps,ty,pos,aft,gd⟩::rest) a w :=
 stBS hf hc hg hN hT h1 hp hn hsmall fun b a w hf hc => k b a w hf (hc.toO .here)

theorem drop_flatO {α : Type} {enc : α → List Value} {sz : Nat} (hz : ∀ x,(enc x).length = sz) : ∀ (k : Nat) (xs : List α),((xs.drop k).map enc).flatten = ((xs.map enc).flatten).drop (k * sz)
 | 0,xs => by simp
 | k + 1,[] => by simp
 | k + 1,x::xs => by
  simp only [List.drop_succ_cons,List.map_cons,List.flatten_cons]
  rw [drop_flatO hz k xs,Nat.succ_mul,Nat.add_comm,← List.drop_drop]
  congr 1
  rw [← hz x,List.drop_left]
theorem stSlO {α : Type} {enc : α → List Value} {xs v : List α} {e sz n cap : Nat} {p : Option Addr} {lo' : Option Operand} {lo : Int} {L2 : Option Addr → Nat → List Ent} (hz : ∀ x,(enc x).length = sz) (hf : Has N a F) (hc : Ctx G L w) (hg : gval ops F ⟨some d,.slice T x lo' none none,ty,pos,aft,gd⟩ = some true)
  (hN : Nat.blt d N.n = true) (hT : P.underlying T = some (.slice e)) (hs : (P.info? e).map (·.size) = some sz) (hx : ev F x = some (.slice p n cap)) (hn : n = xs.length) (hl : oev F 0 lo' = some lo)
  (h : subO xs lo (n : Int) = some v) (hu : ∀ p' c',Upd L (.rowo p cap (xs.map enc) e sz) (.rowo p' c' (v.map enc) e sz) (L2 p' c'))
  (k : ∀ p' cap' a w,Has N a ((d,.slice p' v.length cap')::F) → Ctx G (L2 p' cap') w → wpList P ops Q rest a w) :
  wpList P ops Q (⟨some d,.slice T x lo' none none,ty,pos,aft,gd⟩::rest) a w := by
 subst hn
 obtain ⟨⟨hrl,hfl,hown⟩,-,-⟩ := hc.sat _ (hu none 0).mem
 have hcap : xs.length ≤ cap := by
  rcases hown with ⟨_,h2,_⟩ | ⟨g,o,cur,hv,_,h3,_⟩
  ·simp at h2; simp [h2]
  ·simpa using h3
 refine stP hf hg rfl hN (pSl hT hs hx rfl hcap hl rfl h) fun a hf => k _ _ a w hf (hc.updAt (hu _ _) rfl rfl rfl (Nat.le_refl _) (fun _ _ _ => rfl) (rowo_sat ?_ ⟨flat_lenO hz v |>.trans (by simp),?_⟩) ?_)
 ·intro r hr
  obtain ⟨y,-,rfl⟩ := List.mem_map.1 hr
  exact hz y
 ·obtain ⟨h0,h1,h2,hv,hlen⟩ := subO_spec h
  have hv' : v = xs.drop lo.toNat := by
   rw [hv]
   apply List.take_of_length_le
   simp
  rcases hown with ⟨hp,h3,hc0⟩ | ⟨g,o,cur,hp,hh,h3,h4,h5,htk⟩
  ·have h3' : xs.length = 0 := by simpa using h3
   have hl0 : lo.toNat = 0 := by omega
   have hv0 : v = [] := List.eq_nil_of_length_eq_zero (by omega)
   refine .inl ⟨?_,by simp [hv0],by omega⟩
   rw [hp,hl0]
   simp [subP]
  ·subst hp
   have h3' : xs.length ≤ cap := hcap
   have hlx : lo.toNat ≤ xs.length := by omega
   have hlc : lo.toNat ≤ cap := by omega
   have hm := Nat.mul_le_mul_right sz hlc
   have hvl : v.length = xs.length - lo.toNat := by rw [hv']; simp
   have hsub : (cap - lo.toNat) * sz = cap * sz - lo.toNat * sz := Nat.sub_mul _ _ _
   by_cases hce : cap = lo.toNat
   ·have hv0 : v = [] := List.eq_nil_of_length_eq_zero (by omega)
    subst hv0
    refine .inr ⟨g,o,cur,?_,hh,by simp,by omega,?_,by simp⟩
    ·simp [subP,hce]
    ·rw [← hce]; simp; omega
   ·refine .inr ⟨g,o + lo.toNat * sz,cur,?_,hh,by simp; omega,by omega,?_,?_⟩
    ·simp [subP,hce,Addr.add_lit]
    ·omega
    ·rw [hv',drop_flatO hz,← htk,List.drop_take,List.drop_drop]
     congr 1
     simp [Nat.sub_mul]
 ·intro b hb
  refine .inl ?_
  simp only [Ent.rowo,Ent.own] at hb ⊢
  unfold subP at hb
  split at hb
  ·exact hb
  ·cases p with
   | none => simp at hb
   | some q =>
    simp only [Option.map_some,Option.some.injEq] at hb ⊢
    rcases hown with ⟨hq,_⟩ | ⟨g,o,cur,hq,_⟩
    ·cases hq
    ·cases hq
     rw [← hb,Addr.add_lit]
theorem pShr1 {k k' : IntKind} {m : Int} {d : Option Nat} {y : Operand} {T T' : TypeId} (hx : ev F x = some (.int k m)) (hy : ev F y = some (.int k' 1)) : Pu P ⟨d,.binOp .shr T x y T',ty,pos,aft,gd⟩ F (.int k (m / 2)) := fun N a w hf => by
 have h := shift_shr_any k k' m 1 (by decide)
 have h2 : (2 : Int) ^ min (1 : Int).toNat k.bits = 2 := by cases k <;> rfl
 rw [h2] at h
 simp only [execOp,hf.ev hx,hf.ev hy]
 simp [go_sem,h]
end steps
end Go.Nilo
