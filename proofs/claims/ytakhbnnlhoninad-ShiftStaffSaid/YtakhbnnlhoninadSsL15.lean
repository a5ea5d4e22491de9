/-
  What the plain functions compute, in plain arithmetic, part 15. Conditions: what each theorem names.
-/
import Derived.Test.YtakhbnnlhoninadSsL14
set_option linter.unusedSimpArgs false
set_option linter.unusedVariables false
namespace Go.Nilo.Lv
theorem nodupLe : ∀ {l l' : List Int}, l.Nodup → (∀ x ∈ l, x ∈ l') → l.length ≤ l'.length
  | [], _, _, _ => Nat.zero_le _
  | x :: l, l', hn, h => by
    rw [List.nodup_cons] at hn
    have hx : x ∈ l' := h x (List.mem_cons_self)
    have := nodupLe (l := l) (l' := l'.erase x) hn.2 (fun y hy => by
      refine (List.mem_erase_of_ne ?_).2 (h y (List.mem_cons_of_mem _ hy))
      rintro rfl
      exact hn.1 hy)
    rw [List.length_erase_of_mem hx] at this
    have h0 : 0 < l'.length := List.length_pos_of_mem hx
    simp only [List.length_cons]
    omega
theorem rangeLen {l : List Int} {n : Nat} (hn : l.Nodup) (h : ∀ x ∈ l, 0 ≤ x ∧ x < (n : Int)) : l.length ≤ n := by
  have := nodupLe (l' := (List.range n).map (fun i : Nat => (i : Int))) hn (fun x hx => by
    have := h x hx
    rw [List.mem_map]
    exact ⟨x.toNat, by rw [List.mem_range]; omega, by omega⟩)
  simpa using this
structure Lg where
  s : Int
  g : Int
  c : Int
def FAR : Int := 1099511627776
inductive Wk (E : List Lg) (s : Int) : List Int → Int → Int → Prop
  | nil : Wk E s [s] s 0
  | cons {p : List Int} {u L : Int} {e : Lg} : Wk E s p u L → e ∈ E → e.s = u → Wk E s (e.g :: p) e.g (L + e.c)
theorem Wk.mono {E E' : List Lg} (h : ∀ e ∈ E, e ∈ E') {s : Int} {p : List Int} {v L : Int} (w : Wk E s p v L) : Wk E' s p v L := by
  induction w with
  | nil => exact .nil
  | cons _ he hs ih => exact .cons ih (h _ he) hs
def Pot (E : List Lg) (h : Int → Int) : Prop := ∀ e ∈ E, h e.g - h e.s ≤ e.c
theorem Wk.pot {E : List Lg} {h : Int → Int} (hp : Pot E h) {s : Int} {p : List Int} {v L : Int} (w : Wk E s p v L) : h v - h s ≤ L := by
  induction w with
  | nil => omega
  | cons _ he hs ih => have := hp _ he; rw [hs] at this; omega
theorem Wk.split {E : List Lg} {h : Int → Int} (hp : Pot E h) {s : Int} {q : List Int} {u L : Int} (w : Wk E s q u L) (hn : q.Nodup) {v : Int} (hv : v ∈ q) : ∃ q' L', q'.Nodup ∧ Wk E s q' v L' ∧ L' + (h u - h v) ≤ L := by
  induction w with
  | nil =>
    obtain rfl := List.mem_singleton.mp hv
    exact ⟨[v], 0, by simp, .nil, by omega⟩
  | @cons p u L e w' he hs ih =>
    rcases List.mem_cons.mp hv with rfl | hv'
    · exact ⟨e.g :: p, L + e.c, hn, .cons w' he hs, by omega⟩
    · obtain ⟨q', L', h1, h2, h3⟩ := ih (List.nodup_cons.mp hn).2 hv'
      refine ⟨q', L', h1, h2, ?_⟩
      have := hp e he
      rw [hs] at this
      omega
theorem Wk.short {E : List Lg} {h : Int → Int} (hp : Pot E h) {s : Int} {q : List Int} {v L : Int} (w : Wk E s q v L) : ∃ q' L', q'.Nodup ∧ Wk E s q' v L' ∧ L' ≤ L := by
  induction w with
  | nil => exact ⟨[s], 0, by simp, .nil, Int.le_refl _⟩
  | @cons p u L e w' he hs ih =>
    obtain ⟨q', L', h1, h2, h3⟩ := ih
    by_cases hg : e.g ∈ q'
    · obtain ⟨q2, L2, k1, k2, k3⟩ := h2.split hp h1 hg
      refine ⟨q2, L2, k1, k2, ?_⟩
      have := hp e he
      rw [hs] at this
      omega
    · exact ⟨e.g :: q', L' + e.c, List.nodup_cons.mpr ⟨hg, h1⟩, .cons h2 he hs, by omega⟩
theorem Wk.mem {E : List Lg} {V : Nat} (hE : ∀ e ∈ E, 0 ≤ e.g ∧ e.g < (V : Int)) {s : Int} (hs : 0 ≤ s ∧ s < (V : Int)) {q : List Int} {v L : Int} (w : Wk E s q v L) : ∀ x ∈ q, 0 ≤ x ∧ x < (V : Int) := by
  induction w with
  | nil => intro x hx; rw [List.mem_singleton.mp hx]; exact hs
  | cons _ he _ ih =>
    intro x hx
    rcases List.mem_cons.mp hx with rfl | hx
    · exact hE _ he
    · exact ih x hx
theorem Wk.bound {E : List Lg} {B : Int} (hB : ∀ e ∈ E, e.c ≤ B) {s : Int} {q : List Int} {v L : Int} (w : Wk E s q v L) : L ≤ ((q.length : Nat) : Int) * B - B := by
  induction w with
  | nil => simp
  | @cons p u L e _ he _ ih =>
    have := hB _ he
    have h2 : (((e.g :: p).length : Nat) : Int) * B = ((p.length : Nat) : Int) * B + B := by rw [List.length_cons]; push_cast; rw [Int.add_mul, Int.one_mul]
    omega

def upd (f : Int → Int) (i x : Int) : Int → Int := fun j => if j = i then x else f j
def rlx (f : Int → Int) (e : Lg) : Int → Int := if f e.s = FAR then f else if f e.s + e.c < f e.g then upd f e.g (f e.s + e.c) else f
theorem rlx_le (f : Int → Int) (e : Lg) (v : Int) : rlx f e v ≤ f v := by
  unfold rlx upd
  split
  · exact Int.le_refl _
  · split
    · show (if v = e.g then f e.s + e.c else f v) ≤ f v
      split
      · rename_i h; rw [h]; omega
      · exact Int.le_refl _
    · exact Int.le_refl _
theorem pass_le : ∀ (E : List Lg) (f : Int → Int) (v : Int), E.foldl rlx f v ≤ f v
  | [], _, _ => Int.le_refl _
  | e :: E, f, v => Int.le_trans (pass_le E (rlx f e) v) (rlx_le f e v)
def Snd (E : List Lg) (s : Int) (f : Int → Int) : Prop := ∀ v, f v = FAR ∨ f v < FAR ∧ ∃ q, Wk E s q v (f v)
theorem Snd.rlx {E : List Lg} {s : Int} {f : Int → Int} (h : Snd E s f) {e : Lg} (he : e ∈ E) : Snd E s (rlx f e) := by
  intro v
  unfold Go.Nilo.Lv.rlx
  split
  · exact h v
  · rename_i h1
    split
    · rename_i h2
      show (if v = e.g then f e.s + e.c else f v) = FAR ∨ (if v = e.g then f e.s + e.c else f v) < FAR ∧ ∃ q, Wk E s q v (if v = e.g then f e.s + e.c else f v)
      split
      · rename_i h3
        subst h3
        rcases h e.s with h4 | ⟨h4, q, h5⟩
        · exact absurd h4 h1
        · right
          refine ⟨?_, e.g :: q, .cons h5 he rfl⟩
          rcases h e.g with h6 | ⟨h6, _⟩ <;> omega
      · exact h v
    · exact h v
theorem Snd.pass {E : List Lg} {s : Int} : ∀ {E' : List Lg}, (∀ e ∈ E', e ∈ E) → ∀ {f : Int → Int}, Snd E s f → Snd E s (E'.foldl Go.Nilo.Lv.rlx f)
  | [], _, _, h => h
  | e :: E', he, f, h => Snd.pass (E' := E') (fun x hx => he x (List.mem_cons_of_mem _ hx)) (h.rlx (he e List.mem_cons_self))
theorem pass_leg : ∀ {E : List Lg} {f : Int → Int} {e : Lg}, e ∈ E → ∀ {x : Int}, f e.s ≤ x → x < FAR → E.foldl rlx f e.g ≤ x + e.c
  | a :: E, f, e, he, x, hx, hF => by
    rcases List.mem_cons.mp he with rfl | he
    · refine Int.le_trans (pass_le E (rlx f e) e.g) ?_
      unfold rlx
      rw [if_neg (by omega)]
      split
      · unfold upd; rw [if_pos rfl]; omega
      · omega
    · exact pass_leg (E := E) (f := rlx f a) he (Int.le_trans (rlx_le f a e.s) hx) hF
def passes (E : List Lg) : Nat → (Int → Int) → Int → Int
  | 0, f => f
  | n + 1, f => passes E n (E.foldl rlx f)
theorem passes_succ (E : List Lg) : ∀ (n : Nat) (f : Int → Int), passes E (n + 1) f = E.foldl rlx (passes E n f)
  | 0, _ => rfl
  | n + 1, f => by rw [passes, passes_succ E n]; rfl
theorem passes_le (E : List Lg) : ∀ (n m : Nat) (f : Int → Int) (v : Int), n ≤ m → passes E m f v ≤ passes E n f v
  | n, 0, f, v, h => by obtain rfl : n = 0 := by omega
                        exact Int.le_refl _
  | n, m + 1, f, v, h => by
    by_cases e : n = m + 1
    · rw [e]; exact Int.le_refl _
    · rw [passes_succ]
      exact Int.le_trans (pass_le E _ v) (passes_le E n m f v (by omega))
theorem Snd.passes {E : List Lg} {s : Int} : ∀ (n : Nat) {f : Int → Int}, Snd E s f → Snd E s (Go.Nilo.Lv.passes E n f)
  | 0, _, h => h
  | n + 1, f, h => by rw [passes_succ]; exact Snd.pass (fun e he => he) (Snd.passes n h)
def start (s : Int) : Int → Int := fun v => if v = s then 0 else FAR
theorem start_snd (E : List Lg) (s : Int) : Snd E s (start s) := by
  intro v
  unfold start
  split
  · rename_i h; subst h; exact .inr ⟨by decide, [v], .nil⟩
  · exact .inl rfl
theorem passes_walk {E : List Lg} {B : Int} (hB : ∀ e ∈ E, e.c ≤ B) (h0 : 0 ≤ B) {s : Int} {q : List Int} {v L : Int} (w : Wk E s q v L) (hq : ((q.length : Nat) : Int) * B < FAR) : passes E (q.length - 1) (start s) v ≤ L := by
  induction w with
  | nil => show start s s ≤ 0; unfold start; rw [if_pos rfl]; exact Int.le_refl _
  | @cons p u L e w' he hs ih =>
    have h2 : (((e.g :: p).length : Nat) : Int) * B = ((p.length : Nat) : Int) * B + B := by rw [List.length_cons]; push_cast; rw [Int.add_mul, Int.one_mul]
    have hb := w'.bound hB
    have h3 := ih (by omega)
    have hl : 1 ≤ p.length := by cases w' <;> simp
    have : (e.g :: p).length - 1 = (p.length - 1) + 1 := by simp; omega
    rw [this, passes_succ]
    refine pass_leg he (by rw [hs]; exact h3) (by omega)
def D (E : List Lg) (V : Nat) (s : Int) : Int → Int := passes E V (start s)
structure EOk (E : List Lg) (V : Nat) (B : Int) : Prop where
  b : ∀ e ∈ E, e.c ≤ B
  b0 : 0 ≤ B
  v : (V : Int) * B + B < FAR
  g : ∀ e ∈ E, 0 ≤ e.g ∧ e.g < (V : Int)
theorem D_walk {E : List Lg} {V : Nat} {B : Int} (hE : EOk E V B) {h : Int → Int} (hp : Pot E h) {s : Int} (hs : 0 ≤ s ∧ s < (V : Int)) {q : List Int} {v L : Int} (w : Wk E s q v L) : D E V s v ≤ L := by
  obtain ⟨q', L', h1, h2, h3⟩ := w.short hp
  have hl := rangeLen h1 (h2.mem hE.g hs)
  have hb0 := hE.b0
  have hm : ((q'.length : Nat) : Int) * B ≤ (V : Int) * B := Int.mul_le_mul_of_nonneg_right (by omega) hE.b0
  have := passes_walk hE.b hE.b0 h2 (by have := hE.v; omega)
  exact Int.le_trans (passes_le E (q'.length - 1) V (start s) v (by omega)) (Int.le_trans this h3)
theorem D_snd (E : List Lg) (V : Nat) (s : Int) : Snd E s (D E V s) := (start_snd E s).passes V
theorem D_closed {E : List Lg} {V : Nat} {B : Int} (hE : EOk E V B) {h : Int → Int} (hp : Pot E h) {s : Int} (hs : 0 ≤ s ∧ s < (V : Int)) {e : Lg} (he : e ∈ E) (hf : D E V s e.s < FAR) : D E V s e.g ≤ D E V s e.s + e.c := by
  rcases D_snd E V s e.s with h1 | ⟨_, q, h1⟩
  · omega
  · exact D_walk hE hp hs (.cons h1 he rfl)
theorem D_pot {E : List Lg} {V : Nat} {h : Int → Int} (hp : Pot E h) {s v : Int} (hf : D E V s v < FAR) : h v - h s ≤ D E V s v := by
  rcases D_snd E V s v with h1 | ⟨_, q, h1⟩
  · omega
  · exact h1.pot hp
theorem D_self {E : List Lg} {V : Nat} {B : Int} (hE : EOk E V B) {h : Int → Int} (hp : Pot E h) {s : Int} (hs : 0 ≤ s ∧ s < (V : Int)) : D E V s s = 0 := by
  have h1 := D_walk hE hp hs (.nil : Wk E s [s] s 0)
  have h2 := D_pot (V := V) (s := s) (v := s) hp (by have : (0 : Int) < FAR := by decide
                                                     omega)
  omega
end Go.Nilo.Lv
