/-
  What the plain functions compute, in plain arithmetic, part 4. Conditions: what each theorem names.
-/
import Derived.Test.YtfgdaecfjidahaaGreatTmL3
set_option linter.unusedSimpArgs false
set_option linter.unusedVariables false
namespace Go.Nilo.Lv
theorem aH3:∀ {l l':List Int}, l.Nodup→(∀ x ∈ l, x ∈ l')→l.length≤l'.length
  | [], _, _, _=>Nat.zero_le _
  | x :: l, l', hn, h=>by
    rw [List.nodup_cons] at hn
    have hx:x ∈ l':=h x (List.mem_cons_self)
    have:=aH3 (l:=l) (l':=l'.erase x) hn.2 (fun y hy=>by
      refine (List.mem_erase_of_ne ?_).2 (h y (List.mem_cons_of_mem _ hy))
      rintro rfl
      exact hn.1 hy)
    rw [List.length_erase_of_mem hx] at this
    have h0:0 < l'.length:=List.length_pos_of_mem hx
    simp only [List.length_cons]
    omega
theorem aK8 {l:List Int} {n:Nat} (hn:l.Nodup) (h:∀ x ∈ l, 0≤x∧x < (n:Int)):l.length≤n:=by
  have:=aH3 (l':=(List.range n).map (fun i:Nat=>(i:Int))) hn (fun x hx=>by
    have:=h x hx
    rw [List.mem_map]
    exact ⟨x.toNat, by rw [List.mem_range]; omega, by omega⟩)
  simpa using this
structure Lg where
  s:Int
  g:Int
  c:Int
def FAR:Int:=1099511627776
inductive Wk (E:List Lg) (s:Int):List Int→Int→Int→Prop
  | nil:Wk E s [s] s 0
  | cons {p:List Int} {u L:Int} {e:Lg}:Wk E s p u L→e ∈ E→e.s=u→Wk E s (e.g :: p) e.g (L + e.c)
theorem Wk.mono {E E':List Lg} (h:∀ e ∈ E, e ∈ E') {s:Int} {p:List Int} {v L:Int} (w:Wk E s p v L):Wk E' s p v L:=by
  induction w with
  | nil=>exact .nil
  | cons _ he hs ih=>exact .cons ih (h _ he) hs
def Pot (E:List Lg) (h:Int→Int):Prop:=∀ e ∈ E, h e.g - h e.s≤e.c
theorem Wk.pot {E:List Lg} {h:Int→Int} (hp:Pot E h) {s:Int} {p:List Int} {v L:Int} (w:Wk E s p v L):h v - h s≤L:=by
  induction w with
  | nil=>omega
  | cons _ he hs ih=>have:=hp _ he; rw [hs] at this; omega
theorem Wk.split {E:List Lg} {h:Int→Int} (hp:Pot E h) {s:Int} {q:List Int} {u L:Int} (w:Wk E s q u L) (hn:q.Nodup) {v:Int} (hv:v ∈ q):∃ q' L', q'.Nodup∧Wk E s q' v L'∧L' + (h u - h v)≤L:=by
  induction w with
  | nil=>
    obtain rfl:=List.mem_singleton.mp hv
    exact ⟨[v], 0, by simp, .nil, by omega⟩
  | @cons p u L e w' he hs ih=>
    rcases List.mem_cons.mp hv with rfl | hv'
    · exact ⟨e.g :: p, L + e.c, hn, .cons w' he hs, by omega⟩
    · obtain ⟨q', L', h1, h2, h3⟩:=ih (List.nodup_cons.mp hn).2 hv'
      refine ⟨q', L', h1, h2, ?_⟩
      have:=hp e he
      rw [hs] at this
      omega
theorem Wk.short {E:List Lg} {h:Int→Int} (hp:Pot E h) {s:Int} {q:List Int} {v L:Int} (w:Wk E s q v L):∃ q' L', q'.Nodup∧Wk E s q' v L'∧L'≤L:=by
  induction w with
  | nil=>exact ⟨[s], 0, by simp, .nil, Int.le_refl _⟩
  | @cons p u L e w' he hs ih=>
    obtain ⟨q', L', h1, h2, h3⟩:=ih
    by_cases hg:e.g ∈ q'
    · obtain ⟨q2, L2, k1, k2, k3⟩:=h2.split hp h1 hg
      refine ⟨q2, L2, k1, k2, ?_⟩
      have:=hp e he
      rw [hs] at this
      omega
    · exact ⟨e.g :: q', L' + e.c, List.nodup_cons.mpr ⟨hg, h1⟩, .cons h2 he hs, by omega⟩
theorem Wk.mem {E:List Lg} {V:Nat} (hE:∀ e ∈ E, 0≤e.g∧e.g < (V:Int)) {s:Int} (hs:0≤s∧s < (V:Int)) {q:List Int} {v L:Int} (w:Wk E s q v L):∀ x ∈ q, 0≤x∧x < (V:Int):=by
  induction w with
  | nil=>intro x hx; rw [List.mem_singleton.mp hx]; exact hs
  | cons _ he _ ih=>
    intro x hx
    rcases List.mem_cons.mp hx with rfl | hx
    · exact hE _ he
    · exact ih x hx
theorem Wk.bound {E:List Lg} {B:Int} (hB:∀ e ∈ E, e.c≤B) {s:Int} {q:List Int} {v L:Int} (w:Wk E s q v L):L≤((q.length:Nat):Int) * B - B:=by
  induction w with
  | nil=>simp
  | @cons p u L e _ he _ ih=>
    have:=hB _ he
    have h2:(((e.g :: p).length:Nat):Int) * B=((p.length:Nat):Int) * B + B:=by rw [List.length_cons]; push_cast; rw [Int.add_mul, Int.one_mul]
    omega

def upd (f:Int→Int) (i x:Int):Int→Int:=fun j=>if j=i then x else f j
def rlx (f:Int→Int) (e:Lg):Int→Int:=if f e.s=FAR then f else if f e.s + e.c < f e.g then upd f e.g (f e.s + e.c) else f
theorem aDs (f:Int→Int) (e:Lg) (v:Int):rlx f e v≤f v:=by
  unfold rlx upd
  split
  · exact Int.le_refl _
  · split
    · show (if v=e.g then f e.s + e.c else f v)≤f v
      split
      · rename_i h; rw [h]; omega
      · exact Int.le_refl _
    · exact Int.le_refl _
theorem aD9:∀ (E:List Lg) (f:Int→Int) (v:Int), E.foldl rlx f v≤f v
  | [], _, _=>Int.le_refl _
  | e :: E, f, v=>Int.le_trans (aD9 E (rlx f e) v) (aDs f e v)
def Snd (E:List Lg) (s:Int) (f:Int→Int):Prop:=∀ v, f v=FAR ∨ f v < FAR∧∃ q, Wk E s q v (f v)
theorem Snd.rlx {E:List Lg} {s:Int} {f:Int→Int} (h:Snd E s f) {e:Lg} (he:e ∈ E):Snd E s (rlx f e):=by
  intro v
  unfold Go.Nilo.Lv.rlx
  split
  · exact h v
  · rename_i h1
    split
    · rename_i h2
      show (if v=e.g then f e.s + e.c else f v)=FAR ∨ (if v=e.g then f e.s + e.c else f v) < FAR∧∃ q, Wk E s q v (if v=e.g then f e.s + e.c else f v)
      split
      · rename_i h3
        subst h3
        rcases h e.s with h4 | ⟨h4, q, h5⟩
        · exact absurd h4 h1
        · right
          refine ⟨?_, e.g :: q, .cons h5 he rfl⟩
          rcases h e.g with h6 | ⟨h6, _⟩ <;> omega
      · exact h v
    · exact h v
theorem Snd.pass {E:List Lg} {s:Int}:∀ {E':List Lg}, (∀ e ∈ E', e ∈ E)→∀ {f:Int→Int}, Snd E s f→Snd E s (E'.foldl Go.Nilo.Lv.rlx f)
  | [], _, _, h=>h
  | e :: E', he, f, h=>Snd.pass (E':=E') (fun x hx=>he x (List.mem_cons_of_mem _ hx)) (h.rlx (he e List.mem_cons_self))
theorem aEu:∀ {E:List Lg} {f:Int→Int} {e:Lg}, e ∈ E→∀ {x:Int}, f e.s≤x→x < FAR→E.foldl rlx f e.g≤x + e.c
  | a :: E, f, e, he, x, hx, hF=>by
    rcases List.mem_cons.mp he with rfl | he
    · refine Int.le_trans (aD9 E (rlx f e) e.g) ?_
      unfold rlx
      rw [if_neg (by omega)]
      split
      · unfold upd; rw [if_pos rfl]; omega
      · omega
    · exact aEu (E:=E) (f:=rlx f a) he (Int.le_trans (aDs f a e.s) hx) hF
def passes (E:List Lg):Nat→(Int→Int)→Int→Int
  | 0, f=>f
  | n + 1, f=>passes E n (E.foldl rlx f)
theorem pP (E:List Lg):∀ (n:Nat) (f:Int→Int), passes E (n + 1) f=E.foldl rlx (passes E n f)
  | 0, _=>rfl
  | n + 1, f=>by rw [passes, pP E n]; rfl
theorem aDh (E:List Lg):∀ (n m:Nat) (f:Int→Int) (v:Int), n≤m→passes E m f v≤passes E n f v
  | n, 0, f, v, h=>by
    obtain rfl:n=0:=by omega
    exact Int.le_refl _
  | n, m + 1, f, v, h=>by
    by_cases e:n=m + 1
    · rw [e]; exact Int.le_refl _
    · rw [pP]
      exact Int.le_trans (aD9 E _ v) (aDh E n m f v (by omega))
theorem Snd.passes {E:List Lg} {s:Int}:∀ (n:Nat) {f:Int→Int}, Snd E s f→Snd E s (Go.Nilo.Lv.passes E n f)
  | 0, _, h=>h
  | n + 1, f, h=>by rw [pP]; exact Snd.pass (fun e he=>he) (Snd.passes n h)
def qF (s:Int):Int→Int:=fun v=>if v=s then 0 else FAR
theorem aDm (E:List Lg) (s:Int):Snd E s (qF s):=by
  intro v
  unfold qF
  split
  · rename_i h; subst h; exact .inr ⟨by decide, [v], .nil⟩
  · exact .inl rfl
theorem aFv {E:List Lg} {B:Int} (hB:∀ e ∈ E, e.c≤B) (h0:0≤B) {s:Int} {q:List Int} {v L:Int} (w:Wk E s q v L) (hq:((q.length:Nat):Int) * B < FAR):passes E (q.length - 1) (qF s) v≤L:=by
  induction w with
  | nil=>show qF s s≤0; unfold qF; rw [if_pos rfl]; exact Int.le_refl _
  | @cons p u L e w' he hs ih=>
    have h2:(((e.g :: p).length:Nat):Int) * B=((p.length:Nat):Int) * B + B:=by rw [List.length_cons]; push_cast; rw [Int.add_mul, Int.one_mul]
    have hb:=w'.bound hB
    have h3:=ih (by omega)
    have hl:1≤p.length:=by cases w' <;> simp
    have:(e.g :: p).length - 1=(p.length - 1) + 1:=by simp; omega
    rw [this, pP]
    refine aEu he (by rw [hs]; exact h3) (by omega)
def D (E:List Lg) (V:Nat) (s:Int):Int→Int:=passes E V (qF s)
structure EOk (E:List Lg) (V:Nat) (B:Int):Prop where
  b:∀ e ∈ E, e.c≤B
  b0:0≤B
  v:(V:Int) * B + B < FAR
  g:∀ e ∈ E, 0≤e.g∧e.g < (V:Int)
theorem aJz {E:List Lg} {V:Nat} {B:Int} (hE:EOk E V B) {h:Int→Int} (hp:Pot E h) {s:Int} (hs:0≤s∧s < (V:Int)) {q:List Int} {v L:Int} (w:Wk E s q v L):D E V s v≤L:=by
  obtain ⟨q', L', h1, h2, h3⟩:=w.short hp
  have hl:=aK8 h1 (h2.mem hE.g hs)
  have hb0:=hE.b0
  have hm:((q'.length:Nat):Int) * B≤(V:Int) * B:=Int.mul_le_mul_of_nonneg_right (by omega) hE.b0
  have:=aFv hE.b hE.b0 h2 (by have:=hE.v; omega)
  exact Int.le_trans (aDh E (q'.length - 1) V (qF s) v (by omega)) (Int.le_trans this h3)
theorem aKy (E:List Lg) (V:Nat) (s:Int):Snd E s (D E V s):=(aDm E s).passes V
theorem aJw {E:List Lg} {V:Nat} {B:Int} (hE:EOk E V B) {h:Int→Int} (hp:Pot E h) {s:Int} (hs:0≤s∧s < (V:Int)) {e:Lg} (he:e ∈ E) (hf:D E V s e.s < FAR):D E V s e.g≤D E V s e.s + e.c:=by
  rcases aKy E V s e.s with h1 | ⟨_, q, h1⟩
  · omega
  · exact aJz hE hp hs (.cons h1 he rfl)
theorem D_pot {E:List Lg} {V:Nat} {h:Int→Int} (hp:Pot E h) {s v:Int} (hf:D E V s v < FAR):h v - h s≤D E V s v:=by
  rcases aKy E V s v with h1 | ⟨_, q, h1⟩
  · omega
  · exact h1.pot hp
theorem aNm {E:List Lg} {V:Nat} {B:Int} (hE:EOk E V B) {h:Int→Int} (hp:Pot E h) {s:Int} (hs:0≤s∧s < (V:Int)):D E V s s=0:=by
  have h1:=aJz hE hp hs (.nil:Wk E s [s] s 0)
  have h3:(0:Int) < FAR:=by decide
  have h2:=D_pot (V:=V) (s:=s) (v:=s) hp (by omega)
  omega
end Go.Nilo.Lv
namespace Go.Nilo.Lv
theorem gD {α:Type} {l:List α} {i:Nat} {d:α} (h:i < l.length):l.getD i d=l[i]:=by simp [List.getD, h]
theorem gD0 {α:Type} {l:List α} {i:Nat} {d:α} (h:l.length≤i):l.getD i d=d:=by simp [List.getD, List.getElem?_eq_none h]
theorem dT {p:Prop} [Decidable p] (h:p):decide p=true:=decide_eq_true h
theorem dF {p:Prop} [Decidable p] (h:¬p):decide p=false:=decide_eq_false h
theorem getI_d {α:Type} {l:List α} {i:Nat} (d:α) (h:i < l.length):bQ l (i:Int)=some (l.getD i d):=by rw [tI h, gD h]
theorem W_sm {n:Int} (h1 : -4000000000000000000≤n) (h2:n≤4000000000000000000):W n=n:=pN (by omega) (by omega)
theorem inR_ok {i:Int} {n:Nat} (h0:0≤i) (h1:i < (n:Int)):inR i n=some ():=by unfold inR; rw [if_pos ⟨h0, h1⟩]
theorem lI {σ ρ τ:Type} (s:σ) (f:σ→Option τ) (g:ρ→Option τ):exK (Ex.go s) f g=f s:=rfl
theorem aK9 {σ ρ:Type} {b:σ→Option (cP σ ρ)} {s0 s1 s2:σ} (h0:b s0=some (.cont s1)) (h1:b s1=some (.cont s2)) (h2:b s2=some (.brk s2)) {N:Nat} (hN:3≤N):bC b N s0=some (.go s2):=by
  obtain ⟨m, rfl⟩:∃ m, N=m + 3:=⟨N - 3, by omega⟩
  rw [bC]; simp only [h0]
  rw [bC]; simp only [h1]
  rw [bC]; simp only [h2]
def ln0:aF:=⟨0, 0, 0, 0, 0⟩
def lnA (ls:List aF) (g:aE):aF:=ls.getD g.Line.toNat ln0
def stF (ls:List aF) (g:aE):Int:=bif g.Back then (lnA ls g).To else (lnA ls g).From
def glF (ls:List aF) (g:aE):Int:=bif g.Back then (lnA ls g).From else (lnA ls g).To
def rsF (ls:List aF) (g:aE):Int:=bif g.Back then (lnA ls g).Error - (lnA ls g).Rise else (lnA ls g).Error + (lnA ls g).Rise
def wR (ls:List aF) (g:aE):Lg:=⟨stF ls g, glF ls g, rsF ls g⟩
def pQ (i:Nat):List aE:=[⟨(i:Int), false⟩, ⟨(i:Int), true⟩]
def tQ (ls:List aF) (v:Int) (k:Nat):List aE:=((List.range k).flatMap pQ).filter (fun g=>stF ls g == v)
def oS (ls:List aF) (v:Int):List aE:=tQ ls v ls.length
theorem vQ {ls:List aF} {v:Int} {k:Nat}:tQ ls v (k + 1)=tQ ls v k++(pQ k).filter (fun g=>stF ls g == v):=by
  unfold tQ
  rw [List.range_succ, List.flatMap_append, List.filter_append]
  simp
theorem qZ {ls:List aF} {v:Int} {g:aE}:g ∈ oS ls v ↔ stF ls g=v∧∃ i:Nat, i < ls.length∧∃ b, g=⟨(i:Int), b⟩:=by
  unfold oS tQ pQ
  rw [List.mem_filter, List.mem_flatMap, beq_iff_eq]
  constructor
  · rintro ⟨⟨i, h1, h2⟩, h3⟩
    refine ⟨h3, i, List.mem_range.1 h1, ?_⟩
    rcases List.mem_cons.1 h2 with h | h
    · exact ⟨false, h⟩
    · exact ⟨true, List.mem_singleton.1 h⟩
  · rintro ⟨h3, i, h1, b, rfl⟩
    refine ⟨⟨i, List.mem_range.2 h1, ?_⟩, h3⟩
    cases b <;> simp
structure LnOk (V:Nat) (l:aF):Prop where
  f:0≤l.From∧l.From < (V:Int)
  t:0≤l.To∧l.To < (V:Int)
  ne:l.From ≠ l.To
  d:0≤l.Day∧l.Day≤40000
  r : -1000000≤l.Rise∧l.Rise≤1000000
  e:0≤l.Error∧l.Error≤10000
structure oF (V:Nat) (ls:List aF):Prop where
  v1:1≤V
  v2:V≤12
  n:ls.length≤30
  l:∀ i, i < ls.length→LnOk V (ls.getD i ln0)
theorem yS {V:Nat} {ls:List aF} (h:oF V ls) {i:Nat} (hi:i < ls.length) (b:Bool):(0≤stF ls ⟨(i:Int), b⟩∧stF ls ⟨(i:Int), b⟩ < (V:Int))∧(0≤glF ls ⟨(i:Int), b⟩∧glF ls ⟨(i:Int), b⟩ < (V:Int))∧stF ls ⟨(i:Int), b⟩ ≠ glF ls ⟨(i:Int), b⟩∧-1010000≤rsF ls ⟨(i:Int), b⟩∧rsF ls ⟨(i:Int), b⟩≤1010000:=by
  obtain ⟨f, t, ne, d, r, e⟩:=h.l i hi
  cases b
  · refine ⟨f, t, ne, ?_, ?_⟩
    · show _≤(ls.getD i ln0).Error + (ls.getD i ln0).Rise; omega
    · show (ls.getD i ln0).Error + (ls.getD i ln0).Rise≤_; omega
  · refine ⟨t, f, fun e=>ne e.symm, ?_, ?_⟩
    · show _≤(ls.getD i ln0).Error - (ls.getD i ln0).Rise; omega
    · show (ls.getD i ln0).Error - (ls.getD i ln0).Rise≤_; omega
theorem aBc {N:Nat} {M:Int} {ls:List aF} {i:Nat} (hi:i < ls.length) (b:Bool):jC N M ls ⟨(i:Int), b⟩=some (stF ls ⟨(i:Int), b⟩):=by
  unfold jC
  dsimp only
  rw [getI_d ln0 hi]
  cases b <;> rfl
theorem aEc {N:Nat} {w:aP} {i:Nat} (hi:i < w.Net.Lines.length) (b:Bool):eP N w ⟨(i:Int), b⟩=some (glF w.Net.Lines ⟨(i:Int), b⟩):=by
  unfold eP
  dsimp only
  rw [getI_d ln0 hi]
  cases b <;> rfl
theorem aDy {N V:Nat} {w:aP} (h:oF V w.Net.Lines) {i:Nat} (hi:i < w.Net.Lines.length) (b:Bool):gB N w ⟨(i:Int), b⟩=some (rsF w.Net.Lines ⟨(i:Int), b⟩):=by
  obtain ⟨f, t, ne, d, r, e⟩:=h.l i hi
  unfold gB
  dsimp only
  rw [getI_d ln0 hi, Option.bind_some]
  cases b
  · rw [cond_false, W_sm (by omega) (by omega)]; rfl
  · rw [cond_true, W_sm (by omega) (by omega)]; rfl
theorem aLm {N:Nat} (hN:3≤N) {a b:Int} (h1 : -2000000000000000000≤a) (h2:a≤2000000000000000000) (h3 : -2000000000000000000≤b) (h4:b≤2000000000000000000):tB N ([a, b]:List Int)=some (a + b):=by
  unfold tB
  rw [aK9 (s0:=((0:Int), (0:Int))) (s1:=(a, 1)) (s2:=(a + b, 2)) (b:=fun s5:Int × Int=>iQ N ([a, b]:List Int) s5.1 s5.2) ?_ ?_ ?_ hN]
  · rfl
  · show iQ N ([a, b]:List Int) 0 0=_
    unfold iQ
    rw [show decide ((0:Int) < (([a, b].length:Nat):Int))=true from rfl, show bQ [a, b] 0=some a from rfl, cond_true, Option.bind_some, Int.zero_add, W_sm (by omega) (by omega)]
    rfl
  · show iQ N ([a, b]:List Int) a 1=_
    unfold iQ
    rw [show decide ((1:Int) < (([a, b].length:Nat):Int))=true from rfl, show bQ [a, b] 1=some b from rfl, cond_true, Option.bind_some, W_sm (by omega) (by omega)]
    rfl
  · show iQ N ([a, b]:List Int) (a + b) 2=_
    unfold iQ
    rw [show decide ((2:Int) < (([a, b].length:Nat):Int))=false from rfl, cond_false]
theorem aLp {N:Nat} (hN:3≤N) {σ:Type} {M v:Int} {ls:List aF} {y:σ→aE→Option (σ × Bool)} (f:σ→aE→σ) (P:σ→Prop) {i:Nat} (hi:i < ls.length) (hy:∀ s b, P s→stF ls ⟨(i:Int), b⟩=v→y s ⟨(i:Int), b⟩=some (f s ⟨(i:Int), b⟩, true)∧P (f s ⟨(i:Int), b⟩)) {s0:σ} (h0:P s0) :
    bC (fun s10:Int × σ=>bH N M ls v y (i:Int) s10.1 s10.2) N (0, s0)=some (.go (2, ((pQ i).filter (fun g=>stF ls g == v)).foldl f s0))∧P (((pQ i).filter (fun g=>stF ls g == v)).foldl f s0):=by
  have hb:∀ (k:Int) (b:Bool) (s:σ), P s→bQ (pQ i) k=some ⟨(i:Int), b⟩→0≤k∧k < 2→bH N M ls v y (i:Int) k s=some (.cont (k + 1, if stF ls ⟨(i:Int), b⟩ == v then f s ⟨(i:Int), b⟩ else s))∧P (if stF ls ⟨(i:Int), b⟩ == v then f s ⟨(i:Int), b⟩ else s):=by
    intro k b s hs hg hk
    unfold bH dL
    have hg':bQ ([(⟨(i:Int), false⟩:aE), (⟨(i:Int), true⟩:aE)]:List aE) k=some ⟨(i:Int), b⟩:=hg
    rw [dT hk.2, cond_true, hg', Option.bind_some, aBc hi, Option.bind_some, W_sm (n:=k + 1) (by omega) (by omega)]
    by_cases hv:stF ls ⟨(i:Int), b⟩=v
    · obtain ⟨h1, h2⟩:=hy s b hs hv
      rw [beq_iff_eq.2 hv, cond_true, h1]
      exact ⟨rfl, h2⟩
    · rw [beq_eq_false_iff_ne.2 hv, cond_false]
      exact ⟨rfl, hs⟩
  obtain ⟨a1, a2⟩:=hb 0 false s0 h0 rfl (by omega)
  obtain ⟨b1, b2⟩:=hb 1 true _ a2 rfl (by omega)
  have e:((pQ i).filter (fun g=>stF ls g == v)).foldl f s0=(if stF ls ⟨(i:Int), true⟩ == v then f (if stF ls ⟨(i:Int), false⟩ == v then f s0 ⟨(i:Int), false⟩ else s0) ⟨(i:Int), true⟩ else (if stF ls ⟨(i:Int), false⟩ == v then f s0 ⟨(i:Int), false⟩ else s0)):=by
    unfold pQ
    rw [List.filter_cons, List.filter_cons, List.filter_nil]
    cases stF ls ⟨(i:Int), false⟩ == v <;> cases stF ls ⟨(i:Int), true⟩ == v <;> rfl
  rw [e]
  refine ⟨aK9 (s1:=(1, _)) a1 b1 ?_ hN, b2⟩
  show bH N M ls v y (i:Int) 2 _=_
  unfold bH
  rw [show decide ((2:Int) < 2)=false from rfl, cond_false]
theorem aE1 {N:Nat} (hN:40≤N) {σ:Type} {M v:Int} {ls:List aF} (hl:ls.length≤30) {y:σ→aE→Option (σ × Bool)} (f:σ→aE→σ) (P:σ→Prop) (hy:∀ s (i:Nat) b, i < ls.length→P s→stF ls ⟨(i:Int), b⟩=v→y s ⟨(i:Int), b⟩=some (f s ⟨(i:Int), b⟩, true)∧P (f s ⟨(i:Int), b⟩)) {s0:σ} (h0:P s0) :
    cA N M ls v y s0=some ((oS ls v).foldl f s0)∧P ((oS ls v).foldl f s0):=by
  obtain ⟨s, h1, h2, h3, h4⟩:=jK (ρ:=σ) (fun s3:Int × σ=>bJ N M ls v y s3.1 s3.2) (fun i s=>s.1=(i:Int)∧s.2=(tQ ls v i).foldl f s0∧P s.2) ls.length (by
    rintro i ⟨x, s⟩ hi ⟨rfl, e, hp⟩
    dsimp only at e hp
    obtain ⟨a1, a2⟩:=aLp (N:=N) (by omega) (M:=M) (v:=v) f P hi (fun s b=>hy s i b hi) hp
    refine ⟨(((i + 1:Nat):Int), ((pQ i).filter (fun g=>stF ls g == v)).foldl f s), ?_, rfl, ?_, a2⟩
    · show bJ N M ls v y (i:Int) s=_
      unfold bJ
      rw [dT (by omega), cond_true, a1, Option.bind_some, dQ (by omega)]
      rfl
    · rw [vQ, List.foldl_append, ← e]) (by
    rintro ⟨x, s⟩ ⟨rfl, -⟩
    show bJ N M ls v y (ls.length:Int) s=_
    unfold bJ
    rw [dF (by omega), cond_false]) ls.length 0 (0, s0) N (by omega) (by omega) ⟨rfl, rfl, h0⟩
  unfold cA
  rw [h1, Option.bind_some, lI]
  rw [h3] at h4 ⊢
  exact ⟨rfl, h4⟩
end Go.Nilo.Lv
namespace Go.Nilo.Lv
theorem xA:FAR=1099511627776:=rfl
def row (V:Nat) (r:Int) (f:Nat→Int):Int→Int:=fun v=>if 0≤v∧v < (V:Int) then f (r * 13 + v).toNat else FAR
theorem uN {V:Nat} {r v:Int} {f:Nat→Int} (h:0≤v∧v < (V:Int)):row V r f v=f (r * 13 + v).toNat:=by unfold row; rw [if_pos h]
theorem vY {V:Nat} (hV:V≤12) {r q v x:Int} {f:Nat→Int} (hr:0≤r∧r < (V:Int)) (hq:0≤q∧q < (V:Int)) (hv:0≤v∧v < (V:Int)):row V q (kU f (r * 13 + v).toNat x)=if q=r then upd (row V r f) v x else row V q f:=by
  funext u
  by_cases hu:0≤u∧u < (V:Int)
  · rw [uN hu]
    by_cases e:q=r
    · subst e
      rw [if_pos rfl]
      unfold upd
      by_cases e2:u=v
      · subst e2; rw [qV, if_pos rfl]
      · rw [rS (by omega), if_neg e2, uN hu]
    · rw [if_neg e, rS (by omega), uN hu]
  · have h0:∀ g:Nat→Int, row V q g u=FAR:=fun g=>by unfold row; rw [if_neg hu]
    rw [h0]
    by_cases e:q=r
    · rw [if_pos e]
      unfold upd
      rw [if_neg (by rintro rfl; exact hu hv)]
      unfold row; rw [if_neg hu]
    · rw [if_neg e, h0]
def Eto (ls:List aF) (k:Nat):List Lg:=(List.range k).flatMap fun (v:Nat)=>(oS ls (v:Int)).map (wR ls)
theorem aFc {ls:List aF} {k:Nat}:Eto ls (k + 1)=Eto ls k++(oS ls (k:Int)).map (wR ls):=by
  unfold Eto
  rw [List.range_succ, List.flatMap_append]
  simp
theorem aEt {V:Nat} {ls:List aF} (h:oF V ls) {e:Lg}:e ∈ Eto ls V ↔ ∃ i:Nat, i < ls.length∧∃ b, e=wR ls ⟨(i:Int), b⟩:=by
  unfold Eto
  rw [List.mem_flatMap]
  constructor
  · rintro ⟨v, -, h2⟩
    obtain ⟨g, h3, rfl⟩:=List.mem_map.1 h2
    obtain ⟨-, i, h4, b, rfl⟩:=qZ.1 h3
    exact ⟨i, h4, b, rfl⟩
  · rintro ⟨i, hi, b, rfl⟩
    obtain ⟨h1, -⟩:=yS h hi b
    exact ⟨(stF ls ⟨(i:Int), b⟩).toNat, List.mem_range.2 (by omega), List.mem_map.2 ⟨_, qZ.2 ⟨by omega, i, hi, b, rfl⟩, rfl⟩⟩
theorem E_ok {V:Nat} {ls:List aF} (h:oF V ls):EOk (Eto ls V) V 1010000:=by
  have hv:=h.v2
  refine ⟨fun e he=>?_, by omega, by rw [xA]; omega, fun e he=>?_⟩
  · obtain ⟨i, hi, b, rfl⟩:=(aEt h).1 he
    exact (yS h hi b).2.2.2.2
  · obtain ⟨i, hi, b, rfl⟩:=(aEt h).1 he
    exact (yS h hi b).2.1
theorem aK4 {N:Nat} (hN:3≤N) {σ:Type} {M v:Int} {ls:List aF} {y:σ→aE→Option (σ × Bool)} (f:σ→aE→σ) (P:Nat→σ→Prop) (hP:∀ k s, P k s→P (k + 1) s) {k:Nat} {i:Nat} (hi:i < ls.length) (hy:∀ s b j, j < k + 2→P j s→stF ls ⟨(i:Int), b⟩=v→y s ⟨(i:Int), b⟩=some (f s ⟨(i:Int), b⟩, true)∧P (j + 1) (f s ⟨(i:Int), b⟩)) {s0:σ} (h0:P k s0) :
    bC (fun s10:Int × σ=>bH N M ls v y (i:Int) s10.1 s10.2) N (0, s0)=some (.go (2, ((pQ i).filter (fun g=>stF ls g == v)).foldl f s0))∧P (k + 2) (((pQ i).filter (fun g=>stF ls g == v)).foldl f s0):=by
  have hb:∀ (q:Int) (b:Bool) (s:σ) (j:Nat), j < k + 2→P j s→bQ (pQ i) q=some ⟨(i:Int), b⟩→0≤q∧q < 2→bH N M ls v y (i:Int) q s=some (.cont (q + 1, if stF ls ⟨(i:Int), b⟩ == v then f s ⟨(i:Int), b⟩ else s))∧P (j + 1) (if stF ls ⟨(i:Int), b⟩ == v then f s ⟨(i:Int), b⟩ else s):=by
    intro q b s j hj hs hg hk
    unfold bH dL
    have hg':bQ ([(⟨(i:Int), false⟩:aE), (⟨(i:Int), true⟩:aE)]:List aE) q=some ⟨(i:Int), b⟩:=hg
    rw [dT hk.2, cond_true, hg', Option.bind_some, aBc hi, Option.bind_some, W_sm (n:=q + 1) (by omega) (by omega)]
    by_cases hv:stF ls ⟨(i:Int), b⟩=v
    · obtain ⟨h1, h2⟩:=hy s b j hj hs hv
      rw [beq_iff_eq.2 hv, cond_true, h1]
      exact ⟨rfl, h2⟩
    · rw [beq_eq_false_iff_ne.2 hv, cond_false]
      exact ⟨rfl, hP _ _ hs⟩
  obtain ⟨a1, a2⟩:=hb 0 false s0 k (by omega) h0 rfl (by omega)
  obtain ⟨b1, b2⟩:=hb 1 true _ (k + 1) (by omega) a2 rfl (by omega)
  have e:((pQ i).filter (fun g=>stF ls g == v)).foldl f s0=(if stF ls ⟨(i:Int), true⟩ == v then f (if stF ls ⟨(i:Int), false⟩ == v then f s0 ⟨(i:Int), false⟩ else s0) ⟨(i:Int), true⟩ else (if stF ls ⟨(i:Int), false⟩ == v then f s0 ⟨(i:Int), false⟩ else s0)):=by
    unfold pQ
    rw [List.filter_cons, List.filter_cons, List.filter_nil]
    cases stF ls ⟨(i:Int), false⟩ == v <;> cases stF ls ⟨(i:Int), true⟩ == v <;> rfl
  rw [e]
  refine ⟨aK9 (s1:=(1, _)) a1 b1 ?_ hN, b2⟩
  show bH N M ls v y (i:Int) 2 _=_
  unfold bH
  rw [show decide ((2:Int) < 2)=false from rfl, cond_false]
theorem aJe {N:Nat} (hN:40≤N) {σ:Type} {M v:Int} {ls:List aF} (hl:ls.length≤30) {y:σ→aE→Option (σ × Bool)} (f:σ→aE→σ) (P:Nat→σ→Prop) (hP:∀ k s, P k s→P (k + 1) s) (hy:∀ s (i:Nat) b j, i < ls.length→j < 60→P j s→stF ls ⟨(i:Int), b⟩=v→y s ⟨(i:Int), b⟩=some (f s ⟨(i:Int), b⟩, true)∧P (j + 1) (f s ⟨(i:Int), b⟩)) {s0:σ} (h0:P 0 s0) :
    cA N M ls v y s0=some ((oS ls v).foldl f s0)∧P (2 * ls.length) ((oS ls v).foldl f s0):=by
  obtain ⟨s, h1, h2, h3, h4⟩:=jK (ρ:=σ) (fun s3:Int × σ=>bJ N M ls v y s3.1 s3.2) (fun i s=>s.1=(i:Int)∧s.2=(tQ ls v i).foldl f s0∧P (2 * i) s.2) ls.length (by
    rintro i ⟨x, s⟩ hi ⟨rfl, e, hp⟩
    dsimp only at e hp
    obtain ⟨a1, a2⟩:=aK4 (N:=N) (by omega) (M:=M) (v:=v) f P hP hi (fun s b j hj=>hy s i b j hi (by omega)) hp
    refine ⟨(((i + 1:Nat):Int), ((pQ i).filter (fun g=>stF ls g == v)).foldl f s), ?_, rfl, ?_, a2⟩
    · show bJ N M ls v y (i:Int) s=_
      unfold bJ
      rw [dT (by omega), cond_true, a1, Option.bind_some, dQ (by omega)]
      rfl
    · rw [vQ, List.foldl_append, ← e]) (by
    rintro ⟨x, s⟩ ⟨rfl, -⟩
    show bJ N M ls v y (ls.length:Int) s=_
    unfold bJ
    rw [dF (by omega), cond_false]) ls.length 0 (0, s0) N (by omega) (by omega) ⟨rfl, rfl, h0⟩
  unfold cA
  rw [h1, Option.bind_some, lI]
  rw [h3] at h4 ⊢
  exact ⟨rfl, h4⟩
abbrev Z:Type:=(Nat→Int) × (Nat→aE)
structure FI (V:Nat) (ls:List aF) (r:Int) (z0 z:Z) (f:Int→Int) (c:Nat):Prop where
  s:Snd (Eto ls V) r f
  e:row V r z.1=f
  o:∀ q, 0≤q∧q < (V:Int)→q ≠ r→row V q z.1=row V q z0.1
  lo:∀ v, -(1010000 * (c:Int))≤f v
theorem FI.mono {V:Nat} {ls:List aF} {r:Int} {z0 z:Z} {f:Int→Int} {c c':Nat} (h:FI V ls r z0 z f c) (hc:c≤c'):FI V ls r z0 z f c':=⟨h.s, h.e, h.o, fun v=>by have:=h.lo v; omega⟩
theorem FI.bd {V:Nat} {ls:List aF} {r:Int} {z0 z:Z} {f:Int→Int} {c:Nat} (h:FI V ls r z0 z f c) (hc:c≤10000) (v:Int) : -20000000000≤f v∧f v≤FAR:=by
  have h1:=h.lo v
  rcases h.s v with e | ⟨e, -⟩
  · rw [e, xA]; omega
  · omega
theorem aNb {f:Int→Int} {e:Lg} {B C:Int} (h:∀ v, B≤f v) (he : -C≤e.c) (hC:0≤C) (v:Int):B - C≤rlx f e v:=by
  have h1:=h v
  have h2:=h e.s
  unfold rlx
  split
  · omega
  · split
    · unfold upd
      split <;> omega
    · omega
theorem aFp {N V:Nat} (hN:3≤N) {w:aP} (hw:oF V w.Net.Lines) {r:Int} (hr:0≤r∧r < (V:Int)) {z0 z:Z} {f:Int→Int} {c:Nat} (hc10:c≤10000) (hI:FI V w.Net.Lines r z0 z f c) {i:Nat} (hi:i < w.Net.Lines.length) (b:Bool) {m:Int} (hm:stF w.Net.Lines ⟨(i:Int), b⟩=m) (hf:f m < FAR) :
    ∃ z', bS N w r m z.1 z.2 ⟨(i:Int), b⟩=some (.go z')∧FI V w.Net.Lines r z0 z' (rlx f (wR w.Net.Lines ⟨(i:Int), b⟩)) (c + 1):=by
  obtain ⟨l1, l2, l3, l4, l5⟩:=yS hw hi b
  have hv:=hw.v2
  rw [hm] at l1
  have hb:=hI.bd hc10 m
  have hlo:∀ v, -(1010000 * ((c + 1:Nat):Int))≤rlx f (wR w.Net.Lines ⟨(i:Int), b⟩) v:=fun v=>by
    have:=aNb (e:=wR w.Net.Lines ⟨(i:Int), b⟩) (C:=1010000) hI.lo (by show _≤rsF w.Net.Lines ⟨(i:Int), b⟩; omega) (by omega) v
    push_cast
    omega
  rw [xA] at hb hf
  have e1:z.1 (r * 13 + m).toNat=f m:=by rw [← hI.e, uN l1]
  have e2:z.1 (r * 13 + glF w.Net.Lines ⟨(i:Int), b⟩).toNat=f (glF w.Net.Lines ⟨(i:Int), b⟩):=by rw [← hI.e, uN l2]
  have hE:wR w.Net.Lines ⟨(i:Int), b⟩ ∈ Eto w.Net.Lines V:=(aEt hw).2 ⟨i, hi, b, rfl⟩
  have hri:gB N (⟨w.Net, z.1, z.2⟩:aP) ⟨(i:Int), b⟩=some (rsF w.Net.Lines ⟨(i:Int), b⟩):=aDy (w:=⟨w.Net, z.1, z.2⟩) hw hi b
  have hgo:eP N (⟨w.Net, z.1, z.2⟩:aP) ⟨(i:Int), b⟩=some (glF w.Net.Lines ⟨(i:Int), b⟩):=aEc (w:=⟨w.Net, z.1, z.2⟩) hi b
  unfold bS
  rw [inR_ok l1.1 (by omega), Option.bind_some, hri, Option.bind_some, e1]
  rw [aLm hN (by omega) (by omega) (by omega) (by omega), Option.bind_some, hgo, Option.bind_some, inR_ok l2.1 (by omega), Option.bind_some, e2]
  have hrl:rlx f (wR w.Net.Lines ⟨(i:Int), b⟩)=if f m + rsF w.Net.Lines ⟨(i:Int), b⟩ < f (glF w.Net.Lines ⟨(i:Int), b⟩) then upd f (glF w.Net.Lines ⟨(i:Int), b⟩) (f m + rsF w.Net.Lines ⟨(i:Int), b⟩) else f:=by
    unfold rlx wR
    dsimp only
    rw [hm, if_neg (by rw [xA]; omega)]
  by_cases hc:f m + rsF w.Net.Lines ⟨(i:Int), b⟩ < f (glF w.Net.Lines ⟨(i:Int), b⟩)
  · rw [dT hc, cond_true, Option.bind_some, Option.bind_some, inR_ok l2.1 (by omega), Option.bind_some, Option.bind_some]
    refine ⟨_, rfl, hI.s.rlx hE, ?_, fun q hq hne=>?_, hlo⟩
    · dsimp only
      rw [vY hv hr hr l2, if_pos rfl, hrl, if_pos hc, hI.e]
    · dsimp only
      rw [vY hv hr hq l2, if_neg hne]; exact hI.o q hq hne
  · rw [dF hc, cond_false]
    refine ⟨_, rfl, hI.s.rlx hE, ?_, hI.o, hlo⟩
    rw [hrl, if_neg hc]; exact hI.e
theorem aIo {N V:Nat} (hN:40≤N) {w:aP} (hw:oF V w.Net.Lines) {r:Int} (hr:0≤r∧r < (V:Int)) {z0 z:Z} {f:Int→Int} {c:Nat} (hc10:c + 60≤10000) (hI:FI V w.Net.Lines r z0 z f c) {M m:Int} (hf:f m < FAR) :
    ∃ z', cA N M w.Net.Lines m (rY (fun (zz:Z) (ix_:aE)=>bS N w r m zz.1 zz.2 ix_)) (.go z)=some (.go z')∧FI V w.Net.Lines r z0 z' (((oS w.Net.Lines m).map (wR w.Net.Lines)).foldl rlx f) (c + 60):=by
  have hwn:=hw.n
  -- the state as a step on pairs: where it is, and what the row is
  let stp:Rs Z→aE→Rs Z:=fun s g=>match s with
    | .go z=>(bS N w r m z.1 z.2 g).getD (.go z)
    | s=>s
  have hstep:∀ (s:Rs Z) (i:Nat) (b:Bool) (j:Nat), i < w.Net.Lines.length→j < 60→(∃ z f, s=.go z∧FI V w.Net.Lines r z0 z f (c + j)∧f m < FAR)→stF w.Net.Lines ⟨(i:Int), b⟩=m→rY (fun (zz:Z) (ix_:aE)=>bS N w r m zz.1 zz.2 ix_) s ⟨(i:Int), b⟩=some (stp s ⟨(i:Int), b⟩, true)∧∃ z f, stp s ⟨(i:Int), b⟩=.go z∧FI V w.Net.Lines r z0 z f (c + (j + 1))∧f m < FAR:=by
    rintro s i b j hi hj ⟨z, f, rfl, h1, h2⟩ hm
    obtain ⟨z', k1, k2⟩:=aFp (N:=N) (by omega) hw hr (by omega) h1 hi b hm h2
    have e:stp (.go z) ⟨(i:Int), b⟩=.go z':=by show (bS N w r m z.1 z.2 ⟨(i:Int), b⟩).getD (.go z)=_; rw [k1]; rfl
    refine ⟨?_, z', _, e, k2, Int.lt_of_le_of_lt (aDs _ _ _) h2⟩
    rw [e]
    show Option.map (fun r=>(r, r.on)) (bS N w r m z.1 z.2 ⟨(i:Int), b⟩)=_
    rw [k1]; rfl
  obtain ⟨h1, -⟩:=aJe hN (M:=M) (v:=m) hw.n stp (fun j s=>∃ z f, s=.go z∧FI V w.Net.Lines r z0 z f (c + j)∧f m < FAR) (by
    rintro j s ⟨z, f, a1, a2, a3⟩
    exact ⟨z, f, a1, a2.mono (by omega), a3⟩) hstep (s0:=.go z) ⟨z, f, rfl, hI, hf⟩
  rw [h1]
  have key:∀ (L:List aE), (∀ g ∈ L, g ∈ oS w.Net.Lines m)→∀ (z:Z) (f:Int→Int) (c:Nat), c + L.length≤10000→FI V w.Net.Lines r z0 z f c→f m < FAR→∃ z', L.foldl stp (.go z)=.go z'∧FI V w.Net.Lines r z0 z' ((L.map (wR w.Net.Lines)).foldl rlx f) (c + L.length):=by
    intro L
    induction L with
    | nil=>intro _ z f c _ hI _; exact ⟨z, rfl, hI⟩
    | cons g L ih=>
      intro hL z f c hc hI hf
      rw [List.length_cons] at hc
      obtain ⟨hm, i, hi, b, rfl⟩:=qZ.1 (hL g List.mem_cons_self)
      obtain ⟨z', k1, k2⟩:=aFp (N:=N) (by omega) hw hr (by omega) hI hi b hm hf
      have e:stp (.go z) ⟨(i:Int), b⟩=.go z':=by show (bS N w r m z.1 z.2 ⟨(i:Int), b⟩).getD (.go z)=_; rw [k1]; rfl
      rw [List.foldl_cons, e, List.map_cons, List.foldl_cons]
      obtain ⟨z2, m1, m2⟩:=ih (fun x hx=>hL x (List.mem_cons_of_mem _ hx)) z' _ (c + 1) (by omega) k2 (Int.lt_of_le_of_lt (aDs _ _ _) hf)
      exact ⟨z2, m1, m2.mono (by rw [List.length_cons]; omega)⟩
  have hlen:(oS w.Net.Lines m).length≤60:=by
    have h2:∀ k, (tQ w.Net.Lines m k).length≤2 * k:=by
      intro k
      induction k with
      | zero=>simp [tQ]
      | succ k ih=>
        rw [vQ, List.length_append]
        have:((pQ k).filter (fun g=>stF w.Net.Lines g == m)).length≤2:=List.length_filter_le _ (pQ k)
        omega
    have:=h2 w.Net.Lines.length
    unfold oS
    omega
  obtain ⟨z', k1, k2⟩:=key _ (fun g hg=>hg) z f c (by omega) hI hf
  exact ⟨z', by rw [k1], k2.mono (by omega)⟩
theorem aFx {f:Int→Int} {m:Int} (hf:f m=FAR):∀ (L:List Lg), (∀ e ∈ L, e.s=m)→L.foldl rlx f=f
  | [], _=>rfl
  | e :: L, h=>by
    have:rlx f e=f:=by unfold rlx; rw [h e List.mem_cons_self, if_pos hf]
    rw [List.foldl_cons, this]
    exact aFx hf L fun x hx=>h x (List.mem_cons_of_mem _ hx)
theorem aI6 {N V:Nat} (hN:40≤N) {w:aP} (hV:w.Net.Marks=(V:Int)) (hw:oF V w.Net.Lines) {r:Int} (hr:0≤r∧r < (V:Int)) {z0 z:Z} {f:Int→Int} {c:Nat} (hc10:c + 720≤10000) (hI:FI V w.Net.Lines r z0 z f c) :
    ∃ z', bC (fun s11:Int × Z=>cS N w r s11.1 s11.2.1 s11.2.2) N (0, z)=some (.go ((V:Int), z'))∧FI V w.Net.Lines r z0 z' ((Eto w.Net.Lines V).foldl rlx f) (c + 720):=by
  have hv:=hw.v2
  obtain ⟨⟨x, z'⟩, h1, h2, h3⟩:=jK (ρ:=cP (Int × Z) Z) (fun s11:Int × Z=>cS N w r s11.1 s11.2.1 s11.2.2) (fun i s=>s.1=(i:Int)∧FI V w.Net.Lines r z0 s.2 ((Eto w.Net.Lines i).foldl rlx f) (c + 60 * i)) V (by
    rintro i ⟨x, y⟩ hi ⟨rfl, hI⟩
    dsimp only at hI
    have hin:0≤(i:Int)∧(i:Int) < (V:Int):=by omega
    have e1:y.1 (r * 13 + (i:Int)).toNat=(Eto w.Net.Lines i).foldl rlx f (i:Int):=by rw [← hI.e, uN hin]
    show ∃ s', cS N w r (i:Int) y.1 y.2=_∧_
    unfold cS fG
    rw [dT (show (i:Int) < w.Net.Marks by omega), cond_true, inR_ok (by omega) (by omega), Option.bind_some, e1, dQ (by omega)]
    by_cases hf:(Eto w.Net.Lines i).foldl rlx f (i:Int)=FAR
    · rw [beq_iff_eq.2 (show _=(1099511627776:Int) from hf), cond_true]
      refine ⟨_, rfl, rfl, ?_⟩
      rw [aFc, List.foldl_append, aFx hf _ (fun e he=>by
        obtain ⟨g, hg, rfl⟩:=List.mem_map.1 he
        exact (qZ.1 hg).1)]
      exact hI.mono (by omega)
    · have hlt:(Eto w.Net.Lines i).foldl rlx f (i:Int) < FAR:=by
        rcases hI.s (i:Int) with h | ⟨h, -⟩
        · exact absurd h hf
        · exact h
      rw [beq_eq_false_iff_ne.2 (show _ ≠ (1099511627776:Int) from hf), cond_false]
      obtain ⟨z', k1, k2⟩:=aIo hN hw hr (by omega) hI (M:=w.Net.Marks) hlt
      have e3:eM N (⟨w.Net, y.1, y.2⟩:aP) (i:Int)=some (i:Int):=rfl
      rw [e3, Option.bind_some]
      have k1':cA N w.Net.Marks w.Net.Lines (i:Int) (rY (fun (zz:(Nat→Int) × (Nat→aE)) (ix_:aE)=>bS N w r (i:Int) zz.1 zz.2 ix_)) (.go (y.1, y.2))=some (.go z'):=k1
      rw [k1', Option.bind_some]
      exact ⟨_, rfl, rfl, by rw [aFc, List.foldl_append]; exact k2.mono (by omega)⟩) (by
    rintro ⟨x, y⟩ ⟨rfl, -⟩
    show cS N w r (V:Int) y.1 y.2=_
    unfold cS
    rw [dF (by omega), cond_false]) V 0 (0, z) N (by omega) (by omega) ⟨rfl, hI⟩
  dsimp only at h2 h3
  subst h2
  exact ⟨z', h1, h3.mono (by omega)⟩
theorem aLn {N V:Nat} (hN:40≤N) {w:aP} (hV:w.Net.Marks=(V:Int)) (hw:oF V w.Net.Lines) {r:Int} (hr:0≤r∧r < (V:Int)) (h0:row V r w.can=qF r) :
    ∃ z':Z, jX N w r=some z'∧row V r z'.1=D (Eto w.Net.Lines V) V r∧(∀ q, 0≤q∧q < (V:Int)→q ≠ r→row V q z'.1=row V q w.can)∧∀ v, -20000000000≤D (Eto w.Net.Lines V) V r v∧D (Eto w.Net.Lines V) V r v≤FAR:=by
  have hv:=hw.v2
  obtain ⟨⟨x, z'⟩, h1, h2, h3⟩:=jK (ρ:=Z) (fun s5:Int × Z=>dR N w r s5.1 s5.2.1 s5.2.2) (fun i s=>s.1=(i:Int)∧FI V w.Net.Lines r (w.can, w.by_) s.2 (passes (Eto w.Net.Lines V) i (qF r)) (720 * i)) V (by
    rintro i ⟨x, y⟩ hi ⟨rfl, hI⟩
    dsimp only at hI
    obtain ⟨z', k1, k2⟩:=aI6 hN hV hw hr (by omega) hI
    show ∃ s', dR N w r (i:Int) y.1 y.2=_∧_
    unfold dR
    have k1':bC (fun s11=>cS N w r s11.1 s11.2.1 s11.2.2) N (0, y.1, y.2)=some (.go ((V:Int), z')):=k1
    rw [dT (show (i:Int) < w.Net.Marks by omega), cond_true, k1', Option.bind_some, lI, dQ (by omega)]
    exact ⟨_, rfl, rfl, by rw [pP]; exact k2.mono (by omega)⟩) (by
    rintro ⟨x, y⟩ ⟨rfl, -⟩
    show dR N w r (V:Int) y.1 y.2=_
    unfold dR
    rw [dF (by omega), cond_false]) V 0 (0, w.can, w.by_) N (by omega) (by omega) ⟨rfl, aDm _ _, h0, fun q _ _=>rfl, fun v=>by
    show -(1010000 * ((720 * 0:Nat):Int))≤qF r v
    unfold qF
    rw [xA]
    split <;> omega⟩
  dsimp only at h2 h3
  unfold jX
  rw [inR_ok hr.1 (by omega), Option.bind_some, Option.bind_some]
  have h1':bC (fun s5=>dR N w r s5.1 s5.2.1 s5.2.2) N (0, w.can, w.by_)=some (.go (x, z')):=h1
  rw [h1', Option.bind_some, lI]
  exact ⟨z', rfl, h3.e, h3.o, fun v=>h3.bd (by omega) v⟩
end Go.Nilo.Lv
namespace Go.Nilo.Lv
structure Tr (V:Nat) (ls:List aF) (h:Int→Int):Prop where
  p:Pot (Eto ls V) h
  b:∀ v, -1000000000≤h v∧h v≤1000000000
theorem aPf {V:Nat} {ls:List aF} {h:Int→Int} (ht:Tr V ls h) {s:Int} {f:Int→Int} (hs:Snd (Eto ls V) s f) (v:Int) : -2000000000≤f v∧f v≤FAR:=by
  have h1:=ht.b v
  have h2:=ht.b s
  rcases hs v with e | ⟨e, q, w⟩
  · rw [e, xA]; omega
  · have:=w.pot ht.p
    omega
theorem aJp {N V:Nat} (hN:40≤N) {n:aO} (hV:n.Marks=(V:Int)) (hv:V≤12) {a:Int} (ha:0≤a∧a < (V:Int)) (f:Nat→Int) :
    ∃ s, bC (fun s20:Int × (Nat→Int)=>fW N n a s20.1 s20.2) N (0, f)=some (.go s)∧(∀ v, row V a s.2 v=FAR)∧∀ q, 0≤q∧q < (V:Int)→q ≠ a→row V q s.2=row V q f:=by
  obtain ⟨s, h1, h2, h3, h4⟩:=jK (ρ:=cP (Int × (Nat→Int)) (Int × (Nat→Int) × (Nat→aE))) (fun s20:Int × (Nat→Int)=>fW N n a s20.1 s20.2) (fun i s=>s.1=(i:Int)∧(∀ v, v < (i:Int)→row V a s.2 v=FAR)∧∀ q, 0≤q∧q < (V:Int)→q ≠ a→row V q s.2=row V q f) V (by
    rintro i ⟨x, g⟩ hi ⟨rfl, h1, h2⟩
    dsimp only at h1 h2
    have hin:0≤(i:Int)∧(i:Int) < (V:Int):=by omega
    show ∃ s', fW N n a (i:Int) g=_∧_
    unfold fW
    rw [dT (by omega), cond_true, inR_ok ha.1 (by omega), Option.bind_some, inR_ok (by omega) (by omega), Option.bind_some, dQ (by omega)]
    refine ⟨_, rfl, rfl, fun v hv'=>?_, fun q hq hne=>?_⟩
    · dsimp only
      rw [vY hv ha ha hin, if_pos rfl]
      unfold upd
      by_cases e:v=(i:Int)
      · rw [if_pos e]; rfl
      · rw [if_neg e]; exact h1 v (by omega)
    · dsimp only
      rw [vY hv ha hq hin, if_neg hne]; exact h2 q hq hne) (by
    rintro ⟨x, g⟩ ⟨rfl, -⟩
    show fW N n a (V:Int) g=_
    unfold fW
    rw [dF (by omega), cond_false]) V 0 (0, f) N (by omega) (by omega) ⟨rfl, fun v hv'=>by unfold row; rw [if_neg (by omega)], fun q _ _=>rfl⟩
  refine ⟨s, h1, fun v=>?_, h4⟩
  by_cases h:v < (V:Int)
  · exact h3 v h
  · unfold row; rw [if_neg (by omega)]
theorem aJi {V:Nat} (hv:V≤12) {a:Int} (ha:0≤a∧a < (V:Int)) {f:Nat→Int} (h:∀ v, row V a f v=FAR):row V a (kU f (a * 13 + a).toNat 0)=qF a:=by
  rw [vY hv ha ha ha, if_pos rfl]
  funext v
  unfold upd qF
  by_cases e:v=a
  · rw [if_pos e, if_pos e]
  · rw [if_neg e, if_neg e]; exact h v
theorem aLq {N V:Nat} (hN:40≤N) {n:aO} (hV:n.Marks=(V:Int)) (hv:V≤12) :
    ∃ s, bC (fun s5:Int × (Nat→Int)=>gK N n s5.1 s5.2) N (0, (fun _=>0))=some (.go s)∧∀ q, 0≤q∧q < (V:Int)→row V q s.2=qF q:=by
  obtain ⟨s, h1, h2, h3⟩:=jK (ρ:=Int × (Nat→Int) × (Nat→aE)) (fun s5:Int × (Nat→Int)=>gK N n s5.1 s5.2) (fun i s=>s.1=(i:Int)∧∀ q, 0≤q∧q < (i:Int)→row V q s.2=qF q) V (by
    rintro i ⟨x, g⟩ hi ⟨rfl, h1⟩
    dsimp only at h1
    have hin:0≤(i:Int)∧(i:Int) < (V:Int):=by omega
    obtain ⟨s, k1, k2, k3⟩:=aJp hN hV hv hin g
    show ∃ s', gK N n (i:Int) g=_∧_
    unfold gK
    rw [dT (by omega), cond_true, k1, Option.bind_some, lI, inR_ok (by omega) (by omega), Option.bind_some, Option.bind_some, dQ (by omega)]
    refine ⟨_, rfl, rfl, fun q hq=>?_⟩
    dsimp only
    by_cases e:q=(i:Int)
    · subst e; exact aJi hv hin k2
    · rw [vY hv hin (by omega) hin, if_neg e, k3 q (by omega) e]
      exact h1 q (by omega)) (by
    rintro ⟨x, g⟩ ⟨rfl, -⟩
    show gK N n (V:Int) g=_
    unfold gK
    rw [dF (by omega), cond_false]) V 0 (0, (fun _=>0)) N (by omega) (by omega) ⟨rfl, fun q hq=>by omega⟩
  exact ⟨s, h1, h3⟩
theorem aIw {N V:Nat} (hN:40≤N) {n:aO} (hV:n.Marks=(V:Int)) (hn:oF V n.Lines) :
    ∃ can by_, kY N n=some (n.Marks, can, by_)∧∀ q, 0≤q∧q < (V:Int)→row V q can=D (Eto n.Lines V) V q∧∀ v, -20000000000≤D (Eto n.Lines V) V q v∧D (Eto n.Lines V) V q v≤FAR:=by
  have hv:=hn.v2
  obtain ⟨s, h1, h2⟩:=aLq hN hV hv
  obtain ⟨⟨x, z⟩, g1, g2, g3, g4⟩:=jK (ρ:=Int × (Nat→Int) × (Nat→aE)) (fun s8:Int × Z=>gL N n s8.1 s8.2.1 s8.2.2) (fun i s=>s.1=(i:Int)∧(∀ q, 0≤q∧q < (i:Int)→row V q s.2.1=D (Eto n.Lines V) V q∧∀ v, -20000000000≤D (Eto n.Lines V) V q v∧D (Eto n.Lines V) V q v≤FAR)∧∀ q, (i:Int)≤q∧q < (V:Int)→row V q s.2.1=qF q) V (by
    rintro i ⟨x, z⟩ hi ⟨rfl, k1, k2⟩
    dsimp only at k1 k2
    have hin:0≤(i:Int)∧(i:Int) < (V:Int):=by omega
    obtain ⟨z', f1, f2, f3, f4⟩:=aLn hN (w:=⟨n, z.1, z.2⟩) hV hn hin (k2 (i:Int) (by omega))
    show ∃ s', gL N n (i:Int) z.1 z.2=_∧_
    unfold gL
    rw [dT (by omega), cond_true, f1, Option.bind_some, dQ (by omega)]
    refine ⟨_, rfl, rfl, fun q hq=>?_, fun q hq=>?_⟩
    · dsimp only
      by_cases e:q=(i:Int)
      · subst e; exact ⟨f2, f4⟩
      · have:=f3 q (by omega) e
        rw [show row V q (z'.1, z'.2).1=row V q z'.1 from rfl, this]; exact k1 q (by omega)
    · dsimp only
      have:=f3 q (by omega) (by omega)
      rw [show row V q (z'.1, z'.2).1=row V q z'.1 from rfl, this]; exact k2 q (by omega)) (by
    rintro ⟨x, z⟩ ⟨rfl, -⟩
    show gL N n (V:Int) z.1 z.2=_
    unfold gL
    rw [dF (by omega), cond_false]) V 0 (0, s.2, (fun _=>(⟨0, false⟩:aE))) N (by omega) (by omega) ⟨rfl, fun q hq=>by omega, fun q hq=>h2 q (by omega)⟩
  refine ⟨z.1, z.2, ?_, g3⟩
  unfold kY
  rw [h1, Option.bind_some, lI]
  have g1':bC (fun s8=>gL N n s8.1 s8.2.1 s8.2.2) N (0, s.2, (fun _=>(⟨0, false⟩:aE)))=some (.go (x, z)):=g1
  rw [g1', Option.bind_some, lI]
theorem aLk {N V:Nat} (hN:40≤N) {w:aP} (hV:w.Net.Marks=(V:Int)) (hn:oF V w.Net.Lines) {h:Int→Int} (ht:Tr V w.Net.Lines h) (hc:∀ q, 0≤q∧q < (V:Int)→row V q w.can=D (Eto w.Net.Lines V) V q):cD N w=some false:=by
  have hv:=hn.v2
  have hE:=E_ok hn
  have hg:∀ q v, 0≤q∧q < (V:Int)→0≤v∧v < (V:Int)→w.can (q * 13 + v).toNat=D (Eto w.Net.Lines V) V q v:=fun q v hq hv'=>by rw [← hc q hq, uN hv']
  have h12:∀ (m:Int), 0≤m∧m < (V:Int)→∀ (z:Bool) (i:Nat) (b:Bool), i < w.Net.Lines.length→stF w.Net.Lines ⟨(i:Int), b⟩=m→bP N w m z ⟨(i:Int), b⟩=some (.go z):=by
    intro m hm z i b hi hst
    obtain ⟨l1, l2, l3, l4, l5⟩:=yS hn hi b
    obtain ⟨s, h1, -⟩:=jK (ρ:=Rs Bool) (fun s16:Int=>eJ N w m ⟨(i:Int), b⟩ s16) (fun j s=>s=(j:Int)) V (by
      rintro j s hj rfl
      have hjn:0≤(j:Int)∧(j:Int) < (V:Int):=by omega
      refine ⟨((j + 1:Nat):Int), ?_, rfl⟩
      unfold eJ
      rw [dT (show (j:Int) < w.Net.Marks by omega), cond_true, inR_ok (show 0≤(j:Int) by omega) (show (j:Int) < ((13:Nat):Int) by omega), Option.bind_some, inR_ok hm.1 (by omega), Option.bind_some, hg _ _ hjn hm, dQ (by omega)]
      by_cases hf:D (Eto w.Net.Lines V) V (j:Int) m < 1099511627776
      · rw [dT hf, cond_true, aDy hn hi b, Option.bind_some, aEc hi b, Option.bind_some, inR_ok l2.1 (by omega), Option.bind_some, hg _ _ hjn l2]
        have hlo:=aPf ht (aKy (Eto w.Net.Lines V) V (j:Int)) m
        have hcl:=aJw hE ht.p hjn ((aEt hn).2 ⟨i, hi, b, rfl⟩) (show D (Eto w.Net.Lines V) V (j:Int) (wR w.Net.Lines ⟨(i:Int), b⟩).s < FAR by rw [show (wR w.Net.Lines ⟨(i:Int), b⟩).s=m from hst]; exact hf)
        rw [show (wR w.Net.Lines ⟨(i:Int), b⟩).s=m from hst] at hcl
        have hcl:D (Eto w.Net.Lines V) V (j:Int) (glF w.Net.Lines ⟨(i:Int), b⟩)≤D (Eto w.Net.Lines V) V (j:Int) m + rsF w.Net.Lines ⟨(i:Int), b⟩:=hcl
        rw [W_sm (by omega) (by omega), dF (by omega), Option.bind_some, cond_false]
      · rw [dF hf, cond_false, Option.bind_some, cond_false]) (by
      rintro s rfl
      unfold eJ
      rw [dF (by omega), cond_false]) V 0 0 N (by omega) (by omega) rfl
    unfold bP
    rw [h1, Option.bind_some, lI]
  obtain ⟨s, h1, -⟩:=jK (ρ:=Bool) (fun s4:Int × Bool=>dE N w s4.1 s4.2) (fun i s=>s=((i:Int), false)) V (by
    rintro i s hi rfl
    have hin:0≤(i:Int)∧(i:Int) < (V:Int):=by omega
    refine ⟨(((i + 1:Nat):Int), false), ?_, rfl⟩
    obtain ⟨k1, -⟩:=aE1 hN (M:=w.Net.Marks) (v:=(i:Int)) hn.n (y:=rY (fun (zz:Bool) (ix_:aE)=>bP N w (i:Int) zz ix_)) (fun s _=>s) (fun s=>s=.go false) (by
      rintro s j b hj rfl hst
      refine ⟨?_, rfl⟩
      show Option.map (fun r=>(r, r.on)) (bP N w (i:Int) false ⟨(j:Int), b⟩)=_
      rw [h12 _ hin false j b hj hst]
      rfl) (s0:=.go false) rfl
    have hfold:∀ (L:List aE) (s:Rs Bool), L.foldl (fun s _=>s) s=s:=fun L=>by
      induction L with
      | nil=>intro s; rfl
      | cons a L ih=>intro s; exact ih s
    rw [hfold] at k1
    show dE N w (i:Int) false=_
    unfold dE
    have e3:eM N w (i:Int)=some (i:Int):=rfl
    rw [dT (show (i:Int) < w.Net.Marks by omega), cond_true, e3, Option.bind_some, k1, Option.bind_some]
    show Option.bind (inR (i:Int) 13) _=_
    rw [inR_ok (by omega) (by omega), Option.bind_some, Option.bind_some, hg _ _ hin hin, aNm hE ht.p hin, dQ (by omega)]
    rfl) (by
    rintro s rfl
    show dE N w (V:Int) false=_
    unfold dE
    rw [dF (by omega), cond_false]) V 0 (0, false) N (by omega) (by omega) rfl
  unfold cD
  rw [h1, Option.bind_some, lI]
theorem aJb {N V:Nat} (hN:40≤N) {n:aO} (hV:n.Marks=(V:Int)) (hn:oF V n.Lines):nN N n=some 0:=by
  have hv1:=hn.v1
  have hv2:=hn.v2
  have hl:=hn.n
  have hev:(n.Lines.any fun l=>dG l n)=false:=by
    rw [List.any_eq_false]
    intro l hl'
    obtain ⟨i, hi, rfl⟩:=List.getElem_of_mem hl'
    obtain ⟨f, t, ne, d, r, e⟩:=hn.l i hi
    rw [gD hi] at f t ne d r e
    unfold dG mO aI bE
    try dsimp only
    rw [hV, W_sm (n:=(V:Int) - 1) (by omega) (by omega), dT (show (0:Int)≤n.Lines[i].From by omega), dT (show n.Lines[i].From≤(V:Int) - 1 by omega), dT (show (0:Int)≤n.Lines[i].To by omega), dT (show n.Lines[i].To≤(V:Int) - 1 by omega), dT d.1, dT d.2, dT r.1, dT r.2, dT e.1, dT e.2, bne_iff_ne.2 ne]
    decide
  have e1:gG N n.Lines n=some true:=by
    unfold gG cL cY
    rcases zV (fun r=>dG r n) n.Lines (by omega) (fun s4=>dW N n.Lines n s4) (fun x=>rfl) n.Lines.length 0 N (by omega) (by omega) with ⟨k, k1, k2, k3⟩ | ⟨k1, k2⟩
    · rw [List.drop_zero, hev] at k3; cases k3
    · rw [show ((0:Nat):Int)=0 from rfl] at k1
      rw [k1]
      rfl
  unfold nN
  rw [e1]
  unfold bE
  rw [hV, dT (show (1:Int)≤(V:Int) by omega), dT (show (V:Int)≤12 by omega), dF (show ¬ 30 < ((n.Lines.length:Nat):Int) by omega)]
  rfl
end Go.Nilo.Lv
