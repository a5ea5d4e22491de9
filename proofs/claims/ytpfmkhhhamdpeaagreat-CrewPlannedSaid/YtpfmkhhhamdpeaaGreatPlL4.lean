/-
  What the plain functions compute, in plain arithmetic, part 4. Conditions: what each theorem names.
-/
import Derived.Test.YtpfmkhhhamdpeaaGreatPlL3
set_option linter.unusedSimpArgs false
set_option linter.unusedVariables false
namespace Go.Nilo
structure VOk (v : crew_Visit) : Prop where
 w0 : 0 ≤ v.Way.Lo
 w1 : v.Way.Lo ≤ v.Way.Hi
 w2 : v.Way.Hi ≤ 100000
 k0 : 0 ≤ v.Work.Lo
 k1 : v.Work.Lo ≤ v.Work.Hi
 k2 : v.Work.Hi ≤ 100000
 o0 : 0 ≤ v.Open
 o1 : v.Open ≤ v.Close
 o2 : v.Close ≤ 100000
theorem vok_iff {v : crew_Visit} : crew_rounded_1 v = true ↔ VOk v := by
 simp only [crew_rounded_1,crew_minutes,crew_minute,crew_in,Bool.and_eq_true,decide_eq_true_eq]
 constructor
 ·rintro ⟨⟨⟨⟨⟨a1,a2⟩,a3,a4⟩,⟨b1,b2⟩,b3,b4⟩,c1,c2⟩,c3,c4⟩
  exact ⟨a1,a2,a4,b1,b2,b4,c1,c2,c4⟩
 ·rintro ⟨a1,a2,a3,b1,b2,b3,c1,c2,c3⟩
  refine ⟨⟨⟨⟨⟨a1,a2⟩,by omega,a3⟩,⟨b1,b2⟩,by omega,b3⟩,c1,c2⟩,by omega,c3⟩
def rndCode (l : List crew_Visit) : Int := if 1 ≤ l.length ∧ l.length ≤ 20 then (if l.all crew_rounded_1 = true then 0 else 120) else 3
theorem rounded_spec {N : Nat} {l : List crew_Visit} (hl : l.length ≤ 1000) (hN2 : l.length < N) : crew_rounded N l = some (rndCode l) := by
 unfold crew_rounded rndCode
 have c3 : crew_every_crew_Visit N l = some (l.all crew_rounded_1) := by
  unfold crew_every_crew_Visit slices_ContainsFunc_Lcrew_Visit_crew_Visit slices_IndexFunc_Lcrew_Visit_crew_Visit
  exact every_gen (f := crew_every_crew_Visit_1) (ok := crew_rounded_1) (fun x => rfl) hN2 (by omega) _ (fun x => rfl)
 by_cases h : 1 ≤ l.length ∧ l.length ≤ 20
 ·rw [if_pos h]
  have : crew_in ((l.length : Nat) : Int) 1 20 = true := by simp only [crew_in,Bool.and_eq_true,decide_eq_true_eq]; omega
  rw [this,c3]
  simp only [Bool.not_true,cond_false,Option.bind_some]
  cases l.all crew_rounded_1 <;> rfl
 ·rw [if_neg h]
  have : crew_in ((l.length : Nat) : Int) 1 20 = false := by
   rw [Bool.eq_false_iff]
   simp only [crew_in,ne_eq,Bool.and_eq_true,decide_eq_true_eq]
   omega
  rw [this]
  rfl
def bgn (f : api_Span → Int) (s : Int) (v : crew_Visit) : Int := max (s + f v.Way) v.Open
def bg (f : api_Span → Int) : Int → List crew_Visit → List Int
 | _,[] => []
 | s,v::l => bgn f s v::bg f (bgn f s v + f v.Work) l
def lv (f : api_Span → Int) : Int → List crew_Visit → Int
 | s,[] => s
 | s,v::l => lv f (bgn f s v + f v.Work) l
theorem bg_snoc (f : api_Span → Int) (v : crew_Visit) : ∀ (l : List crew_Visit) (s : Int),bg f s (l ++ [v]) = bg f s l ++ [bgn f (lv f s l) v]
 | [],s => rfl
 | u::l,s => by simp only [List.cons_append,bg,lv,bg_snoc f v l]
theorem lv_snoc (f : api_Span → Int) (v : crew_Visit) : ∀ (l : List crew_Visit) (s : Int),lv f s (l ++ [v]) = bgn f (lv f s l) v + f v.Work
 | [],s => rfl
 | u::l,s => by simp only [List.cons_append,lv,lv_snoc f v l]
theorem bg_len (f : api_Span → Int) : ∀ (l : List crew_Visit) (s : Int),(bg f s l).length = l.length
 | [],_ => rfl
 | _::l,s => by simp [bg,bg_len f l]
structure SelOk (f : api_Span → Int) : Prop where
 bd : ∀ s : api_Span,s.Lo ≤ s.Hi → s.Lo ≤ f s ∧ f s ≤ s.Hi
theorem sel_lo : SelOk api_Span.Lo := ⟨fun s h => ⟨Int.le_refl _,h⟩⟩
theorem sel_hi : SelOk api_Span.Hi := ⟨fun s h => ⟨h,Int.le_refl _⟩⟩
theorem bgn_bd {f : api_Span → Int} (hf : SelOk f) {v : crew_Visit} (h : VOk v) {s : Int} (hs : 0 ≤ s) : 0 ≤ bgn f s v ∧ bgn f s v ≤ s + 100000 ∧ 0 ≤ f v.Work ∧ f v.Work ≤ 100000 ∧ 0 ≤ f v.Way ∧ f v.Way ≤ 100000 := by
 obtain ⟨a1,a2,a3,b1,b2,b3,c1,c2,c3⟩ := h
 have := hf.bd v.Way a2
 have := hf.bd v.Work b2
 unfold bgn
 omega
theorem lv_bd {f : api_Span → Int} (hf : SelOk f) : ∀ {l : List crew_Visit} {s : Int},(∀ v ∈ l,VOk v) → 0 ≤ s → 0 ≤ lv f s l ∧ lv f s l ≤ s + 200000 * (l.length : Int)
 | [],s,_,h => by simp [lv]; omega
 | v::l,s,hl,h => by
  have h1 := bgn_bd hf (hl v List.mem_cons_self) h
  have h2 := lv_bd hf (l := l) (s := bgn f s v + f v.Work) (fun u hu => hl u (List.mem_cons_of_mem _ hu)) (by omega)
  simp only [lv,List.length_cons]
  push_cast
  omega
theorem begins_gen {f : api_Span → Int} (hf : SelOk f) {l : List crew_Visit} (hl : ∀ v ∈ l,VOk v) (hn : l.length ≤ 20) {start : Int} (h0 : 0 ≤ start) (h1 : start ≤ 1000000) (b : Int × List Int × Int → Option (Step (Int × List Int × Int) (List Int)))
  (hb : ∀ s out x,b (s,out,x) = cond (decide (x < ((l.length : Nat) : Int))) (Option.bind (getI l x) fun e_1 => Option.bind (room ((out ++ [max (W (s + f e_1.Way)) e_1.Open])).length) fun _ =>
   some (.cont (W ((max (W (s + f e_1.Way)) e_1.Open) + f e_1.Work),(out ++ [max (W (s + f e_1.Way)) e_1.Open]),W (x + 1)))) (some (.brk (s,out,x)))) {N : Nat} (hN : 30 ≤ N) :
  loopO b N (start,([] : List Int),0) = some (.go (lv f start l,bg f start l,(l.length : Int))) := by
 have hrun := runS (ρ := List Int) (fun i : Nat => (lv f start (l.take i),bg f start (l.take i),(i : Int))) l.length b (fun i hi => by
  have hv := hl l[i] (List.getElem_mem _)
  have hlv := lv_bd hf (l := l.take i) (s := start) (fun v hv => hl v (List.mem_of_mem_take hv)) h0
  have hbn := bgn_bd hf hv hlv.1
  rw [List.length_take] at hlv
  have e1 : W (lv f start (l.take i) + f l[i].Way) = lv f start (l.take i) + f l[i].Way := W_id (by omega) (by omega)
  have e2 : max (lv f start (l.take i) + f l[i].Way) l[i].Open = bgn f (lv f start (l.take i)) l[i] := rfl
  have e3 : W (bgn f (lv f start (l.take i)) l[i] + f l[i].Work) = lv f start (l.take (i + 1)) := by
   rw [List.take_succ_eq_append_getElem hi,lv_snoc]
   exact W_id (by omega) (by omega)
  have e4 : bg f start (l.take (i + 1)) = bg f start (l.take i) ++ [bgn f (lv f start (l.take i)) l[i]] := by rw [List.take_succ_eq_append_getElem hi,bg_snoc]
  rw [hb]
  simp only [lt_dec hi,cond_true,getI_nat hi,Option.bind_some,e1,e2,e3,W_succ (show i < 9223372036854775807 by omega)]
  rw [room_ok (by simp [bg_len]; omega),e4]
  rfl) (by rw [hb,ge_dec,cond_false]) (N := N) (by omega)
 have e0 : (start,([] : List Int),(0 : Int)) = (lv f start (l.take 0),bg f start (l.take 0),((0 : Nat) : Int)) := rfl
 rw [e0,hrun,List.take_length]
def hrs (s : Int) (l : List crew_Visit) : List api_Span := (List.range l.length).map fun i => ⟨(bg api_Span.Lo s l).getD i 0,(bg api_Span.Hi s l).getD i 0⟩
theorem hrs_len (s : Int) (l : List crew_Visit) : (hrs s l).length = l.length := by simp [hrs]
theorem hrs_get {s : Int} {l : List crew_Visit} {i : Nat} (h : i < l.length) : (hrs s l)[i]'(by rw [hrs_len]; exact h) = ⟨(bg api_Span.Lo s l).getD i 0,(bg api_Span.Hi s l).getD i 0⟩ := by simp [hrs]
theorem hours_ok {N : Nat} (hN : 30 ≤ N) {l : List crew_Visit} (hl : ∀ v ∈ l,VOk v) (hn : 1 ≤ l.length ∧ l.length ≤ 20) {start : Int} (h0 : 0 ≤ start) (h1 : start ≤ 100000) : crew_Hours N start l = some (hrs start l,0) := by
 unfold crew_Hours
 have hc : rndCode l = 0 := by
  unfold rndCode
  rw [if_pos hn,if_pos (List.all_eq_true.2 fun v hv => vok_iff.2 (hl v hv))]
 rw [rounded_spec (by omega) (by omega),hc,Option.bind_some]
 have hm : crew_minute start = true := by simp only [crew_minute,crew_in,Bool.and_eq_true,decide_eq_true_eq]; omega
 rw [hm]
 simp only [bne_self_eq_false,cond_false,Bool.not_true]
 have e1 : crew_begins N start l = some (bg api_Span.Lo start l) := by
  unfold crew_begins
  rw [begins_gen sel_lo hl hn.2 h0 (by omega) _ (fun s out x => rfl) hN]
  rfl
 have e2 : crew_begins_s2 N start l = some (bg api_Span.Hi start l) := by
  unfold crew_begins_s2
  rw [begins_gen sel_hi hl hn.2 h0 (by omega) _ (fun s out x => rfl) hN]
  rfl
 rw [e1,Option.bind_some,e2,Option.bind_some]
 have hrun := runS (ρ := List api_Span × Int) (fun i : Nat => ((hrs start l).take i,(i : Int))) l.length (fun s12 => crew_Hours_b12 N l (bg api_Span.Lo start l) (bg api_Span.Hi start l) s12.1 s12.2) (fun i hi => by
  show crew_Hours_b12 N l _ _ _ _ = _
  unfold crew_Hours_b12
  have g1 : getI (bg api_Span.Lo start l) (i : Int) = some ((bg api_Span.Lo start l).getD i 0) := getI_getD (by rw [bg_len]; exact hi)
  have g2 : getI (bg api_Span.Hi start l) (i : Int) = some ((bg api_Span.Hi start l).getD i 0) := getI_getD (by rw [bg_len]; exact hi)
  have e3 : (hrs start l).take (i + 1) = (hrs start l).take i ++ [⟨(bg api_Span.Lo start l).getD i 0,(bg api_Span.Hi start l).getD i 0⟩] := by
   rw [List.take_succ_eq_append_getElem (by rw [hrs_len]; exact hi),hrs_get hi]
  simp only [lt_dec hi,cond_true,g1,g2,Option.bind_some,W_succ (show i < 9223372036854775807 by omega)]
  rw [room_ok (by simp [hrs_len]; omega),e3]
  rfl) (by
  show crew_Hours_b12 N l _ _ _ _ = _
  unfold crew_Hours_b12
  rw [ge_dec,cond_false]) (N := N) (by omega)
 have e0 : (([] : List api_Span),(0 : Int)) = ((hrs start l).take 0,((0 : Nat) : Int)) := rfl
 rw [e0,hrun,Option.bind_some]
 show some ((hrs start l).take l.length,(0 : Int)) = _
 rw [List.take_of_length_le (by rw [hrs_len]; exact Nat.le_refl _)]
theorem rnd_zero {l : List crew_Visit} (h : rndCode l = 0) : (1 ≤ l.length ∧ l.length ≤ 20) ∧ ∀ v ∈ l,VOk v := by
 unfold rndCode at h
 split at h
 ·rename_i h1
  split at h
  ·rename_i h2
   exact ⟨h1,fun v hv => vok_iff.1 (List.all_eq_true.1 h2 v hv)⟩
  ·omega
 ·omega
def fi (p : Nat → Bool) : Nat → Nat → Int
 | _,0 => -1
 | k,m + 1 => if p k then (k : Int) else fi p (k + 1) m
theorem fi_none {p : Nat → Bool} : ∀ {m k : Nat},fi p k m = -1 ↔ ∀ i,k ≤ i → i < k + m → p i = false
 | 0,k => by simp [fi]; omega
 | m + 1,k => by
  unfold fi
  by_cases h : p k = true
  ·rw [if_pos h]
   constructor
   ·intro h2; omega
   ·intro h2; have := h2 k (Nat.le_refl _) (by omega); rw [h] at this; cases this
  ·rw [if_neg h,fi_none]
   have h' : p k = false := by simpa using h
   constructor
   ·intro h2 i hi hm
    rcases Nat.eq_or_lt_of_le hi with rfl | hi
    ·exact h'
    ·exact h2 i (by omega) (by omega)
   ·intro h2 i hi hm; exact h2 i (by omega) (by omega)
def lateH (s : Int) (l : List crew_Visit) (i : Nat) : Bool := decide ((l.getD i ⟨⟨0,0⟩,⟨0,0⟩,0,0⟩).Close < (bg api_Span.Hi s l).getD i 0)
def lateL (s : Int) (l : List crew_Visit) (i : Nat) : Bool := decide ((l.getD i ⟨⟨0,0⟩,⟨0,0⟩,0,0⟩).Close < (bg api_Span.Lo s l).getD i 0)
theorem late_ok {N : Nat} (hN : 30 ≤ N) {l : List crew_Visit} (hl : ∀ v ∈ l,VOk v) (hn : 1 ≤ l.length ∧ l.length ≤ 20) {start : Int} (h0 : 0 ≤ start) (h1 : start ≤ 100000) :
  crew_Late N start l = some (fi (lateH start l) 0 l.length,fi (lateL start l) 0 l.length,0) := by
 unfold crew_Late
 rw [hours_ok hN hl hn h0 h1,Option.bind_some]
 simp only [bne_self_eq_false,cond_false]
 have hrun := runS (ρ := Int × Int × Int) (fun j : Nat => (fi (lateH start l) (l.length - j) j,fi (lateL start l) (l.length - j) j,((l.length : Nat) : Int) - 1 - (j : Int))) l.length (fun s9 => crew_Late_b9 N l (hrs start l,0) s9.1 s9.2.1 s9.2.2) (fun j hj => by
  show crew_Late_b9 N l _ _ _ _ = _
  unfold crew_Late_b9
  have e1 : (((l.length : Nat) : Int) - 1 - (j : Int)) = ((l.length - (j + 1) : Nat) : Int) := by omega
  have hk : l.length - (j + 1) < l.length := by omega
  rw [e1]
  have d1 : decide ((0 : Int) ≤ ((l.length - (j + 1) : Nat) : Int)) = true := by simp
  have g1 : getI (hrs start l) ((l.length - (j + 1) : Nat) : Int) = some ⟨(bg api_Span.Lo start l).getD (l.length - (j + 1)) 0,(bg api_Span.Hi start l).getD (l.length - (j + 1)) 0⟩ := by
   rw [getI_nat (by rw [hrs_len]; exact hk),hrs_get hk]
  have g2 : getI l ((l.length - (j + 1) : Nat) : Int) = some (l.getD (l.length - (j + 1)) ⟨⟨0,0⟩,⟨0,0⟩,0,0⟩) := by rw [getI_nat hk,get_getD]
  simp only [d1,cond_true,g1,g2,Option.bind_some]
  have e2 : W (((l.length - (j + 1) : Nat) : Int) - 1) = ((l.length : Nat) : Int) - 1 - ((j + 1 : Nat) : Int) := by rw [W_id (by omega) (by omega)]; omega
  have e3 : l.length - j = l.length - (j + 1) + 1 := by omega
  have e4 : ∀ p : Nat → Bool,fi p (l.length - (j + 1)) (j + 1) = if p (l.length - (j + 1)) then ((l.length - (j + 1) : Nat) : Int) else fi p (l.length - j) j := fun p => by rw [e3]; rfl
  unfold crew_Late_j14 crew_Late_j13
  simp only [g1,g2,Option.bind_some,e2]
  rw [e4,e4]
  simp only [lateH,lateL]
  rcases boolEq (decide ((l.getD (l.length - (j + 1)) ⟨⟨0,0⟩,⟨0,0⟩,0,0⟩).Close < (bg api_Span.Hi start l).getD (l.length - (j + 1)) 0)) with h3 | h3 <;>
  rcases boolEq (decide ((l.getD (l.length - (j + 1)) ⟨⟨0,0⟩,⟨0,0⟩,0,0⟩).Close < (bg api_Span.Lo start l).getD (l.length - (j + 1)) 0)) with h4 | h4 <;>
  simp only [h3,h4,cond_true,cond_false,if_true,Bool.false_eq_true,if_false]) (by
  show crew_Late_b9 N l _ _ _ _ = _
  unfold crew_Late_b9
  have : decide ((0 : Int) ≤ ((l.length : Nat) : Int) - 1 - ((l.length : Nat) : Int)) = false := by simp; omega
  rw [this,cond_false]) (N := N) (by omega)
 have e0 : ((-1 : Int),(-1 : Int),W (((l.length : Nat) : Int) - 1)) = (fi (lateH start l) (l.length - 0) 0,fi (lateL start l) (l.length - 0) 0,((l.length : Nat) : Int) - 1 - ((0 : Nat) : Int)) := by
  rw [W_id (by omega) (by omega)]
  simp [fi]
 rw [e0,hrun,Option.bind_some]
 simp only [exK,Nat.sub_self]
def lat : List crew_Visit → Option Int
 | [] => some 200000
 | v::l => match lat l with
  | none => none
  | some b => if min v.Close (b - v.Work.Hi) < v.Open then none else some (min v.Close (b - v.Work.Hi) - v.Way.Hi)
def inT : Int → List crew_Visit → Prop
 | s,[] => s ≤ 200000
 | s,v::l => bgn api_Span.Hi s v ≤ v.Close ∧ inT (bgn api_Span.Hi s v + v.Work.Hi) l
theorem inT_iff : ∀ {l : List crew_Visit} {s : Int},inT s l ↔ ∃ B,lat l = some B ∧ s ≤ B
 | [],s => by simp [inT,lat]
 | v::l,s => by
  unfold inT lat
  rw [inT_iff]
  unfold bgn
  cases lat l with
  | none => simp
  | some b =>
   dsimp only
   by_cases h : min v.Close (b - v.Work.Hi) < v.Open
   ·rw [if_pos h]
    constructor
    ·rintro ⟨h1,B,hB,h2⟩
     have : B = b := (Option.some.inj hB).symm
     subst this
     omega
    ·rintro ⟨B,hB,_⟩; cases hB
   ·rw [if_neg h]
    constructor
    ·rintro ⟨h1,B,hB,h2⟩
     have : B = b := (Option.some.inj hB).symm
     subst this
     exact ⟨_,rfl,by omega⟩
    ·rintro ⟨B,hB,h2⟩
     have := Option.some.inj hB
     subst this
     exact ⟨by omega,b,rfl,by omega⟩
theorem lat_le : ∀ {l : List crew_Visit} {B : Int},(∀ v ∈ l,VOk v) → lat l = some B → B ≤ 200000 ∧ (l ≠ [] → B ≤ 100000) ∧ -100000 ≤ B + (if l = [] then 0 else 0)
 | [],B,_,h => by simp [lat] at h; subst h; simp
 | v::l,B,hl,h => by
  have hv := hl v List.mem_cons_self
  unfold lat at h
  cases hb : lat l with
  | none => rw [hb] at h; cases h
  | some b =>
   rw [hb] at h
   dsimp only at h
   have ih := lat_le (fun u hu => hl u (List.mem_cons_of_mem _ hu)) hb
   split at h
   ·cases h
   ·have := Option.some.inj h
    obtain ⟨a1,a2,a3,b1,b2,b3,c1,c2,c3⟩ := hv
    simp
    omega
theorem latest_ok {N : Nat} (hN : 30 ≤ N) {l : List crew_Visit} (h : rndCode l = 0) : crew_Latest N l = some (match lat l with | none => (0,5) | some B => if B < 0 then (0,5) else (B,0)) := by
 obtain ⟨hn,hl⟩ := rnd_zero h
 unfold crew_Latest
 rw [rounded_spec (by omega) (by omega),h,Option.bind_some]
 simp only [bne_self_eq_false,cond_false]
 have key : ∀ (m k M : Nat),k + m = l.length → k < M → ∀ B,lat (l.drop k) = some B →
   loopO (fun s9 => crew_Latest_b9 N l s9.1 s9.2) M (B,(k : Int) - 1) = some (match lat l with | none => .out (0,5) | some B => .go (B,-1)) := by
  intro m k
  induction k generalizing m with
  | zero =>
   intro M _ hM B hB
   obtain ⟨M,rfl⟩ : ∃ M',M = M' + 1 := ⟨M - 1,by omega⟩
   rw [List.drop_zero] at hB
   rw [hB]
   unfold loopO
   rfl
  | succ k ih =>
   intro M hk hM B hB
   obtain ⟨M,rfl⟩ : ∃ M',M = M' + 1 := ⟨M - 1,by omega⟩
   have hk' : k < l.length := by omega
   have hd : l.drop k = l[k]::l.drop (k + 1) := List.drop_eq_getElem_cons hk'
   have hv := hl l[k] (List.getElem_mem _)
   have hbd := lat_le (fun v hv => hl v (List.mem_of_mem_drop hv)) hB
   unfold loopO
   have e1 : (((k + 1 : Nat) : Int) - 1) = (k : Int) := by omega
   rw [e1]
   have hstep : crew_Latest_b9 N l B (k : Int) = if min l[k].Close (B - l[k].Work.Hi) < l[k].Open then some (.ret (0,5)) else some (.cont (min l[k].Close (B - l[k].Work.Hi) - l[k].Way.Hi,(k : Int) - 1)) := by
    unfold crew_Latest_b9
    have d1 : decide ((0 : Int) ≤ (k : Int)) = true := by simp
    obtain ⟨a1,a2,a3,b1,b2,b3,c1,c2,c3⟩ := hv
    have w1 : W (B - l[k].Work.Hi) = B - l[k].Work.Hi := W_id (by simp at hbd; omega) (by omega)
    simp only [d1,cond_true,getI_nat hk',Option.bind_some,w1]
    by_cases hc : min l[k].Close (B - l[k].Work.Hi) < l[k].Open
    ·rw [if_pos hc]; simp [hc]
    ·rw [if_neg hc]
     have w2 : W (min l[k].Close (B - l[k].Work.Hi) - l[k].Way.Hi) = min l[k].Close (B - l[k].Work.Hi) - l[k].Way.Hi := W_id (by omega) (by omega)
     have w3 : W ((k : Int) - 1) = (k : Int) - 1 := W_id (by omega) (by omega)
     simp [hc,w2,w3]
   rw [hstep]
   by_cases hc : min l[k].Close (B - l[k].Work.Hi) < l[k].Open
   ·rw [if_pos hc]
    have : lat (l.drop k) = none := by rw [hd]; unfold lat; rw [hB]; dsimp only; rw [if_pos hc]
    have hnone : ∀ j,j ≤ k → lat (l.drop (k - j)) = none := by
     intro j hj
     induction j with
     | zero => exact this
     | succ j ihj =>
      have h1 := ihj (by omega)
      have h2 : l.drop (k - (j + 1)) = l[k - (j + 1)]::l.drop (k - j) := by
       rw [List.drop_eq_getElem_cons (by omega)]
       congr 2
       omega
      rw [h2]
      unfold lat
      rw [h1]
    have := hnone k (Nat.le_refl _)
    rw [Nat.sub_self,List.drop_zero] at this
    rw [this]
   ·rw [if_neg hc]
    have : lat (l.drop k) = some (min l[k].Close (B - l[k].Work.Hi) - l[k].Way.Hi) := by rw [hd]; unfold lat; rw [hB]; dsimp only; rw [if_neg hc]
    exact ih (l.length - k) M (by omega) (by omega) _ this
 have e0 : W (((l.length : Nat) : Int) - 1) = ((l.length : Nat) : Int) - 1 := W_id (by omega) (by omega)
 rw [e0,key 0 l.length N (by omega) (by omega) 200000 (by simp [lat])]
 cases lat l with
 | none => rfl
 | some B =>
  simp only [Option.bind_some,exK]
  by_cases hB : B < 0
  ·simp [hB]
  ·simp [hB]
end Go.Nilo
