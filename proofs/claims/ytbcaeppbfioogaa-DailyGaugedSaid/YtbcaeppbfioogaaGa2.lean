/-
  What functions of the Go text compute, as plain functions, and that they do, part 2 of 5. Conditions: what each theorem names.
-/
import Derived.Test.YtbcaeppbfioogaaGa1
import Derived.Test.YtbcaeppbfioogaaProg
set_option linter.unusedVariables false
set_option linter.unusedSimpArgs false
set_option maxRecDepth 100000
set_option maxHeartbeats 4000000
namespace Go.Nilo
open Go.Proofs


def daily_in (n : Int) (least : Int) (greatest : Int) : Bool :=
  ((decide (least ≤ n)) && (decide (n ≤ greatest)))
theorem daily_in_ok {G : Pers} {Lf : List Ent} {w : World} (n : Int) (least : Int) (greatest : Int)   (hc : Ctx G (Lf) w) {res : Bool} (hF : daily_in n least greatest = res) : Calls Try.prog 60 #[.int .i64 n, .int .i64 least, .int .i64 greatest] w (fun e w => e = .returned (.bool res) ∧ Ctx G (Lf) w) := by
  unfold daily_in at hF
  refine fnIn (args := [.int .i64 n, .int .i64 least, .int .i64 greatest]) Try.func60 rfl Try.ntmps60 rfl fun a hf => ?_
  refine wp_seq_k fun K1 h1 => ?_
  refine cReg ?_
  refine stP hf rfl rfl rfl (pA rfl) fun a hf => ?_
  refine cNil ?_
  refine h1 _ _ ?_
  refine wp_seq_k fun K2 h2 => ?_
  refine cReg ?_
  refine stP hf rfl rfl rfl (pM rfl) fun a hf => ?_
  refine stP hf rfl rfl rfl (pM rfl) fun a hf => ?_
  refine stP hf rfl rfl rfl (pGe rfl rfl) fun a hf => ?_
  refine stP hf rfl rfl rfl (pM rfl) fun a hf => ?_
  refine stCut 4 (fun a w => Has 15 a [(0, .int .i64 n), (1, .int .i64 least), (2, .int .i64 greatest), (6, .bool false), (7, .int .i64 n), (8, .int .i64 least), (9, .bool (decide (least ≤ n))), (10, .bool (decide (least ≤ n))), (14, .bool ((decide (least ≤ n)) && (decide (n ≤ greatest))))] ∧ Ctx G (Lf) w) ?_ ?_
  · cases hb : (decide (least ≤ n))
    · rw [hb] at hf
      refine stS hf rfl rfl rfl fun a hf => ?_
      refine stS hf rfl rfl rfl fun a hf => ?_
      refine stS hf rfl rfl rfl fun a hf => ?_
      refine stP hf rfl rfl rfl (pPf rfl rfl) fun a hf => ?_
      exact cNil ⟨hf.keep ⟨rfl, rfl, rfl, rfl, rfl, rfl, rfl, rfl, rfl, trivial⟩, hc⟩
    · rw [hb] at hf
      refine stP hf rfl rfl rfl (pM rfl) fun a hf => ?_
      refine stP hf rfl rfl rfl (pM rfl) fun a hf => ?_
      refine stP hf rfl rfl rfl (pLe rfl rfl) fun a hf => ?_
      refine stP hf rfl rfl rfl (pPt rfl rfl) fun a hf => ?_
      exact cNil ⟨hf.keep ⟨rfl, rfl, rfl, rfl, rfl, rfl, rfl, rfl, rfl, trivial⟩, hc⟩
  intro a w ⟨hf, hc⟩
  refine stP hf rfl rfl rfl (pA rfl) fun a hf => ?_
  refine cNil ?_
  refine h2 _ _ ?_
  refine wp_ret ?_
  obtain rfl := hF
  exact fnOut1 (by simp) rfl Try.results60 hf hc (show look _ 6 = _ from rfl) ⟨rfl, hc⟩

def daily_flow (n : Int) : Bool :=
  (daily_in n 0 1000000000)
theorem daily_flow_ok {G : Pers} {Lf : List Ent} {w : World} (n : Int)   (hc : Ctx G (Lf) w) {res : Bool} (hF : daily_flow n = res) : Calls Try.prog 74 #[.int .i64 n] w (fun e w => e = .returned (.bool res) ∧ Ctx G (Lf) w) := by
  unfold daily_flow at hF
  refine fnIn (args := [.int .i64 n]) Try.func74 rfl Try.ntmps74 rfl fun a hf => ?_
  refine wp_seq_k fun K1 h1 => ?_
  refine cReg ?_
  refine stP hf rfl rfl rfl (pA rfl) fun a hf => ?_
  refine cNil ?_
  refine h1 _ _ ?_
  refine wp_seq_k fun K2 h2 => ?_
  refine cReg ?_
  refine stP hf rfl rfl rfl (pM rfl) fun a hf => ?_
  refine stE hf hc rfl rfl rfl (eC (v := .bool (daily_in n 0 1000000000)) (vs := [.int .i64 n, .int .i64 0, .int .i64 1000000000]) (caps := []) en_60 rfl rfl rfl rfl (fun w hc => daily_in_ok n 0 1000000000 hc rfl)) fun a w hf hc => ?_
  refine stP hf rfl rfl rfl (pA rfl) fun a hf => ?_
  refine cNil ?_
  refine h2 _ _ ?_
  refine wp_ret ?_
  obtain rfl := hF
  exact fnOut1 (by simp) rfl Try.results74 hf hc (show look _ 2 = _ from rfl) ⟨rfl, hc⟩

def daily_flows (s_ : api_Span) : Bool :=
  ((daily_in s_.Lo 0 s_.Hi) && (daily_flow s_.Hi))
theorem daily_flows_ok {G : Pers} {Lf : List Ent} {w : World} (s_ : api_Span)   (hc : Ctx G (Lf) w) {res : Bool} (hF : daily_flows s_ = res) : Calls Try.prog 67 #[.agg #[.int .i64 s_.Lo, .int .i64 s_.Hi]] w (fun e w => e = .returned (.bool res) ∧ Ctx G (Lf) w) := by
  unfold daily_flows at hF
  refine fnIn (args := [.agg #[.int .i64 s_.Lo, .int .i64 s_.Hi]]) Try.func67 rfl Try.ntmps67 rfl fun a hf => ?_
  refine wp_seq_k fun K1 h1 => ?_
  refine cReg ?_
  refine stBx (cs := [.int .i64 s_.Lo, .int .i64 s_.Hi]) hf hc rfl rfl rfl rfl fun b_1 a w hf hc => ?_
  refine stP hf rfl rfl rfl (pA rfl) fun a hf => ?_
  refine cNil ?_
  refine h1 _ _ ?_
  refine wp_seq_k fun K2 h2 => ?_
  refine cReg ?_
  refine stP hf rfl rfl rfl (pFA fa_30_0 rfl) fun a hf => ?_
  refine stE hf hc rfl rfl rfl (eLd1 sc_3 rfl (cell_box m0 rfl)) fun a w hf hc => ?_
  refine stP hf rfl rfl rfl (pFA fa_30_1 rfl) fun a hf => ?_
  refine stE hf hc rfl rfl rfl (eLd1 sc_3 rfl (cell_box m0 rfl)) fun a w hf hc => ?_
  refine stE hf hc rfl rfl rfl (eC (v := .bool (daily_in s_.Lo 0 s_.Hi)) (vs := [.int .i64 s_.Lo, .int .i64 0, .int .i64 s_.Hi]) (caps := []) en_60 rfl rfl rfl rfl (fun w hc => daily_in_ok s_.Lo 0 s_.Hi hc rfl)) fun a w hf hc => ?_
  refine stP hf rfl rfl rfl (pM rfl) fun a hf => ?_
  refine stCut 4 (fun a w => Has 13 a [(1, .pointer (some ⟨b_1, 0, none⟩)), (2, .bool false), (3, .pointer (some ⟨b_1, 0, none⟩)), (4, .int .i64 s_.Lo), (5, .pointer (some ⟨b_1, 1, none⟩)), (6, .int .i64 s_.Hi), (7, .bool (daily_in s_.Lo 0 s_.Hi)), (8, .bool (daily_in s_.Lo 0 s_.Hi)), (12, .bool ((daily_in s_.Lo 0 s_.Hi) && (daily_flow s_.Hi)))] ∧ Ctx G (.box b_1 [.int .i64 s_.Lo, .int .i64 s_.Hi] 30 :: Lf) w) ?_ ?_
  · cases hb : (daily_in s_.Lo 0 s_.Hi)
    · rw [hb] at hf
      refine stS hf rfl rfl rfl fun a hf => ?_
      refine stS hf rfl rfl rfl fun a hf => ?_
      refine stS hf rfl rfl rfl fun a hf => ?_
      refine stP hf rfl rfl rfl (pPf rfl rfl) fun a hf => ?_
      exact cNil ⟨hf.keep ⟨rfl, rfl, rfl, rfl, rfl, rfl, rfl, rfl, rfl, trivial⟩, hc⟩
    · rw [hb] at hf
      refine stP hf rfl rfl rfl (pFA fa_30_1 rfl) fun a hf => ?_
      refine stE hf hc rfl rfl rfl (eLd1 sc_3 rfl (cell_box m0 rfl)) fun a w hf hc => ?_
      refine stE hf hc rfl rfl rfl (eC (v := .bool (daily_flow s_.Hi)) (vs := [.int .i64 s_.Hi]) (caps := []) en_74 rfl rfl rfl rfl (fun w hc => daily_flow_ok s_.Hi hc rfl)) fun a w hf hc => ?_
      refine stP hf rfl rfl rfl (pPt rfl rfl) fun a hf => ?_
      exact cNil ⟨hf.keep ⟨rfl, rfl, rfl, rfl, rfl, rfl, rfl, rfl, rfl, trivial⟩, hc⟩
  intro a w ⟨hf, hc⟩
  refine stP hf rfl rfl rfl (pA rfl) fun a hf => ?_
  refine cNil ?_
  refine h2 _ _ ?_
  refine wp_ret ?_
  obtain rfl := hF
  replace hc := hc.drop k0
  exact fnOut1 (by simp) rfl Try.results67 hf hc (show look _ 2 = _ from rfl) ⟨rfl, hc⟩

def daily_Check_1 (v : daily_Value) : Bool :=
  ((!v.Known) || (daily_flows v.Flow))
theorem daily_Check_1_ok {G : Pers} {Lf : List Ent} {w : World} (v : daily_Value)   (hc : Ctx G (Lf) w) {res : Bool} (hF : daily_Check_1 v = res) : Calls Try.prog 76 #[.agg #[.bool v.Known, .int .i64 v.Flow.Lo, .int .i64 v.Flow.Hi]] w (fun e w => e = .returned (.bool res) ∧ Ctx G (Lf) w) := by
  unfold daily_Check_1 at hF
  refine fnIn (args := [.agg #[.bool v.Known, .int .i64 v.Flow.Lo, .int .i64 v.Flow.Hi]]) Try.func76 rfl Try.ntmps76 rfl fun a hf => ?_
  refine wp_seq_k fun K1 h1 => ?_
  refine cReg ?_
  refine stBx (cs := [.bool v.Known, .int .i64 v.Flow.Lo, .int .i64 v.Flow.Hi]) hf hc rfl rfl rfl rfl fun b_1 a w hf hc => ?_
  refine stP hf rfl rfl rfl (pA rfl) fun a hf => ?_
  refine cNil ?_
  refine h1 _ _ ?_
  refine wp_seq_k fun K2 h2 => ?_
  refine cReg ?_
  refine stP hf rfl rfl rfl (pFA fa_56_0 rfl) fun a hf => ?_
  refine stE hf hc rfl rfl rfl (eLd1 sc_4 rfl (cell_box m0 rfl)) fun a w hf hc => ?_
  refine stP hf rfl rfl rfl (pNot rfl) fun a hf => ?_
  refine stP hf rfl rfl rfl (pM rfl) fun a hf => ?_
  refine stCut 4 (fun a w => Has 11 a [(1, .pointer (some ⟨b_1, 0, none⟩)), (2, .bool false), (3, .pointer (some ⟨b_1, 0, none⟩)), (4, .bool v.Known), (5, .bool (!v.Known)), (6, .bool (!v.Known)), (10, .bool ((!v.Known) || (daily_flows v.Flow)))] ∧ Ctx G (.box b_1 [.bool v.Known, .int .i64 v.Flow.Lo, .int .i64 v.Flow.Hi] 56 :: Lf) w) ?_ ?_
  · cases hb : (!v.Known)
    · rw [hb] at hf
      refine stP hf rfl rfl rfl (pFA fa_56_1 rfl) fun a hf => ?_
      refine stE hf hc rfl rfl rfl (eLdN (vs := [.int .i64 v.Flow.Lo, .int .i64 v.Flow.Hi]) ag_30 rfl rfl (cells_box (n := 2) m0 rfl)) fun a w hf hc => ?_
      refine stE hf hc rfl rfl rfl (eC (v := .bool (daily_flows v.Flow)) (vs := [.agg #[.int .i64 v.Flow.Lo, .int .i64 v.Flow.Hi]]) (caps := []) en_67 rfl rfl rfl rfl (fun w hc => daily_flows_ok v.Flow hc rfl)) fun a w hf hc => ?_
      refine stP hf rfl rfl rfl (pPf rfl rfl) fun a hf => ?_
      exact cNil ⟨hf.keep ⟨rfl, rfl, rfl, rfl, rfl, rfl, rfl, trivial⟩, hc⟩
    · rw [hb] at hf
      refine stS hf rfl rfl rfl fun a hf => ?_
      refine stS hf rfl rfl rfl fun a hf => ?_
      refine stS hf rfl rfl rfl fun a hf => ?_
      refine stP hf rfl rfl rfl (pPt rfl rfl) fun a hf => ?_
      exact cNil ⟨hf.keep ⟨rfl, rfl, rfl, rfl, rfl, rfl, rfl, trivial⟩, hc⟩
  intro a w ⟨hf, hc⟩
  refine stP hf rfl rfl rfl (pA rfl) fun a hf => ?_
  refine cNil ?_
  refine h2 _ _ ?_
  refine wp_ret ?_
  obtain rfl := hF
  replace hc := hc.drop k0
  exact fnOut1 (by simp) rfl Try.results76 hf hc (show look _ 2 = _ from rfl) ⟨rfl, hc⟩

def daily_every_daily_Value_1 (x : daily_Value) : Bool :=
  (!(daily_Check_1 x))
theorem daily_every_daily_Value_1_ok {G : Pers} {Lf : List Ent} {w : World} (x : daily_Value) {b_ : Nat}  (hc : Ctx G (.box b_ [.func (.func 76) #[] #[]] 140 :: Lf) w) {res : Bool} (hF : daily_every_daily_Value_1 x = res) : Calls Try.prog 101 #[.agg #[.bool x.Known, .int .i64 x.Flow.Lo, .int .i64 x.Flow.Hi], .pointer (some ⟨b_, 0, none⟩)] w (fun e w => e = .returned (.bool res) ∧ Ctx G (.box b_ [.func (.func 76) #[] #[]] 140 :: Lf) w) := by
  unfold daily_every_daily_Value_1 at hF
  refine fnIn (args := [.agg #[.bool x.Known, .int .i64 x.Flow.Lo, .int .i64 x.Flow.Hi], .pointer (some ⟨b_, 0, none⟩)]) Try.func101 rfl Try.ntmps101 rfl fun a hf => ?_
  refine wp_seq_k fun K1 h1 => ?_
  refine cReg ?_
  refine stBx (cs := [.bool x.Known, .int .i64 x.Flow.Lo, .int .i64 x.Flow.Hi]) hf hc rfl rfl rfl rfl fun b_1 a w hf hc => ?_
  refine stP hf rfl rfl rfl (pA rfl) fun a hf => ?_
  refine cNil ?_
  refine h1 _ _ ?_
  refine wp_seq_k fun K2 h2 => ?_
  refine cReg ?_
  refine stE hf hc rfl rfl rfl (eLd1 sc_140 rfl (cell_box m1 rfl)) fun a w hf hc => ?_
  refine stE hf hc rfl rfl rfl (eLdN (vs := [.bool x.Known, .int .i64 x.Flow.Lo, .int .i64 x.Flow.Hi]) ag_56 rfl rfl (cells_box (n := 3) m0 rfl)) fun a w hf hc => ?_
  refine stE hf hc rfl rfl rfl (eC (v := .bool (daily_Check_1 x)) (vs := [.agg #[.bool x.Known, .int .i64 x.Flow.Lo, .int .i64 x.Flow.Hi]]) (caps := []) en_76 rfl rfl rfl rfl (fun w hc => daily_Check_1_ok x hc rfl)) fun a w hf hc => ?_
  refine stP hf rfl rfl rfl (pNot rfl) fun a hf => ?_
  refine stP hf rfl rfl rfl (pA rfl) fun a hf => ?_
  refine cNil ?_
  refine h2 _ _ ?_
  refine wp_ret ?_
  obtain rfl := hF
  replace hc := hc.drop k0
  exact fnOut1 (by simp) rfl Try.results101 hf hc (show look _ 3 = _ from rfl) ⟨rfl, hc⟩

def slices_IndexFunc_Ldaily_Value_daily_Value_b4 (N : Nat) (s_ : List daily_Value) (x : Int) : Option (Step (Int) (Int)) :=
  cond (decide (x < ((s_.length : Nat) : Int)))
  (Option.bind (getI s_ x) fun e_1 =>
  cond (daily_every_daily_Value_1 e_1)
  (some (.ret x))
  (some (.cont (W (x + 1)))))
  (some (.brk x))
def slices_IndexFunc_Ldaily_Value_daily_Value (N : Nat) (s_ : List daily_Value) : Option (Int) :=
  Option.bind (loopO (fun s4 => slices_IndexFunc_Ldaily_Value_daily_Value_b4 N s_ s4) N 0) fun x4 =>
  exK x4 (fun s4 => some (-1)) some
theorem slices_IndexFunc_Ldaily_Value_daily_Value_ok {N : Nat} {G : Pers} {Lf : List Ent} {w : World} (s_ : List daily_Value) {s__p : Option Addr} {s__c : Nat} {b_ : Nat} (h_s_ : Rd G 3 s__p s__c (s_.map enc_daily_Value)) (hc : Ctx G (.box b_ [.func (.func 76) #[] #[]] 140 :: Lf) w) {res : Int} (hF : slices_IndexFunc_Ldaily_Value_daily_Value N s_ = some res) : Calls Try.prog 125 #[.slice s__p s_.length s__c, .func (.func 101) #[] #[.pointer (some ⟨b_, 0, none⟩)]] w (fun e w => e = .returned (.int .i64 res) ∧ Ctx G (.box b_ [.func (.func 76) #[] #[]] 140 :: Lf) w) := by
  unfold slices_IndexFunc_Ldaily_Value_daily_Value at hF
  refine fnIn (args := [.slice s__p s_.length s__c, .func (.func 101) #[] #[.pointer (some ⟨b_, 0, none⟩)]]) Try.func125 rfl Try.ntmps125 rfl fun a hf => ?_
  refine wp_seq_k fun K1 h1 => ?_
  refine cReg ?_
  refine stP hf rfl rfl rfl (pA rfl) fun a hf => ?_
  refine cNil ?_
  refine h1 _ _ ?_
  refine wp_seq_k fun K2 h2 => ?_
  refine wp_seq_k fun K3 h3 => ?_
  refine cReg ?_
  refine stP hf rfl rfl rfl (pM rfl) fun a hf => ?_
  refine stP hf rfl rfl rfl (pLenS Try.underlying22 rfl) fun a hf => ?_
  refine stP hf rfl rfl rfl (pM rfl) fun a hf => ?_
  refine cNil ?_
  refine h3 _ _ ?_
  refine wp_block ?_
  obtain ⟨x4, hx4, hF⟩ := bnd_some hF
  let S4 : Int → Act → World → Prop := (fun (zz : Int) a w => Has 19 a [(0, .slice s__p s_.length s__c), (1, .func (.func 101) #[] #[.pointer (some ⟨b_, 0, none⟩)]), (7, .int .i64 ((s_.length : Nat) : Int)), (8, .int .i64 zz)] ∧ Ctx G (.box b_ [.func (.func 76) #[] #[]] 140 :: Lf) w)
  have hr4 : ∀ (zz : Int) a w, x4 = .go zz → S4 zz a w → K2 a w := by
    rintro x a w rfl ⟨hf, hc⟩
    replace hF := exK_go hF
    refine h2 _ _ ?_
    refine wp_seq_k fun K5 h5 => ?_
    refine cReg ?_
    refine stP hf rfl rfl rfl (pA rfl) fun a hf => ?_
    refine cNil ?_
    refine h5 _ _ ?_
    refine wp_ret ?_
    obtain rfl := Option.some.inj hF
    exact fnOut1 (by simp) rfl Try.results125 hf hc (show look _ 4 = _ from rfl) ⟨rfl, hc⟩
  have ho4 : ∀ r, x4 = .out r → r = res := by
    rintro r rfl
    exact Option.some.inj hF
  refine cLoop N (loopW (S := S4) (x := x4) ?_ N 0 _ _ ⟨hf.keep ⟨rfl, rfl, rfl, rfl, trivial⟩, hc⟩ hx4)
  clear hF hf hc
  rintro x st4 a w KB4 ⟨hf, hc⟩ hF hfin4 hK4
  unfold slices_IndexFunc_Ldaily_Value_daily_Value_b4 at hF
  refine wp_seq_k fun K6 h6 => ?_
  refine cReg ?_
  refine stP hf rfl rfl rfl (pLt rfl rfl) fun a hf => ?_
  refine cNil ?_
  refine h6 _ _ ?_
  refine wp_seq_k fun K7 h7 => ?_
  refine cCond (b := (decide (x < ((s_.length : Nat) : Int)))) hf rfl (fun hb => ?_) (fun hb => ?_)
  · replace hF := condT hb hF
    clear hb
    refine wp_skip ?_
    refine h7 _ _ ?_
    refine wp_seq_k fun K8 h8 => ?_
    refine wp_block ?_
    refine wp_seq_k fun K9 h9 => ?_
    refine cReg ?_
    refine stP hf rfl rfl rfl (pM rfl) fun a hf => ?_
    refine stP hf rfl rfl rfl (pA rfl) fun a hf => ?_
    refine cNil ?_
    refine h9 _ _ ?_
    refine wp_seq_k fun K10 h10 => ?_
    refine cReg ?_
    refine stP hf rfl rfl rfl (pM rfl) fun a hf => ?_
    refine stP hf rfl rfl rfl (pM rfl) fun a hf => ?_
    refine stP hf rfl rfl rfl (pM rfl) fun a hf => ?_
    obtain ⟨e_1, he_1, hF⟩ := bnd_some hF
    obtain ⟨b_1, o, qa, qp⟩ := h_s_.atm he_1
    refine stP hf rfl rfl rfl (pIA Try.underlying22 sz_56 rfl rfl qa) fun a hf => ?_
    refine stE hf hc rfl rfl rfl (eLdN (vs := [.bool e_1.Known, .int .i64 e_1.Flow.Lo, .int .i64 e_1.Flow.Hi]) ag_56 rfl rfl (cells_pc qp (n := 3) (o' := 0) rfl)) fun a w hf hc => ?_
    refine stE hf hc rfl rfl rfl (eC (v := .bool (daily_every_daily_Value_1 e_1)) (vs := [.agg #[.bool e_1.Known, .int .i64 e_1.Flow.Lo, .int .i64 e_1.Flow.Hi]]) (caps := [.pointer (some ⟨b_, 0, none⟩)]) en_101 rfl rfl rfl rfl (fun w hc => (daily_every_daily_Value_1_ok e_1 (hc.pick k0) rfl).mono fun e w h => ⟨h.1, (h.2.unpick k0)⟩)) fun a w hf hc => ?_
    refine cNil ?_
    refine h10 _ _ ?_
    refine cCond (b := (daily_every_daily_Value_1 e_1)) hf rfl (fun hb => ?_) (fun hb => ?_)
    · replace hF := condT hb hF
      clear hb
      refine wp_seq_k fun K11 h11 => ?_
      refine cReg ?_
      refine stP hf rfl rfl rfl (pM rfl) fun a hf => ?_
      refine stP hf rfl rfl rfl (pA rfl) fun a hf => ?_
      refine cNil ?_
      refine h11 _ _ ?_
      refine wp_ret ?_
      refine xBlkR ?_
      refine xThenR ?_
      refine xThenR ?_
      have he := Option.some.inj hF
      rw [← he] at hfin4
      replace hF := ho4 _ hfin4
      refine xBlkR ?_
      refine xThenR ?_
      obtain rfl := hF
      exact fnOut1 (by simp) rfl Try.results125 hf hc (show look _ 4 = _ from rfl) ⟨rfl, hc⟩
    · replace hF := condF hb hF
      clear hb
      refine wp_skip ?_
      refine h8 _ _ ?_
      refine cReg ?_
      refine stP hf rfl rfl rfl (pAdd rfl rfl) fun a hf => ?_
      refine stP hf rfl rfl rfl (pM rfl) fun a hf => ?_
      refine cNil ?_
      exact hK4 (W (x + 1)) _ _ (Option.some.inj hF).symm ⟨hf.keep ⟨rfl, rfl, rfl, rfl, trivial⟩, hc⟩
  · replace hF := condF hb hF
    clear hb
    refine wp_exit ?_
    refine xThen ?_
    refine xThen ?_
    have he := Option.some.inj hF
    rw [← he] at hfin4
    refine cHit ?_
    exact hr4 _ _ _ hfin4 ⟨hf.keep ⟨rfl, rfl, rfl, rfl, trivial⟩, hc⟩

def slices_ContainsFunc_Ldaily_Value_daily_Value (N : Nat) (s_ : List daily_Value) : Option (Bool) :=
  Option.bind (slices_IndexFunc_Ldaily_Value_daily_Value N s_) fun r =>
  some (decide (0 ≤ r))
theorem slices_ContainsFunc_Ldaily_Value_daily_Value_ok {N : Nat} {G : Pers} {Lf : List Ent} {w : World} (s_ : List daily_Value) {s__p : Option Addr} {s__c : Nat} {b_ : Nat} (h_s_ : Rd G 3 s__p s__c (s_.map enc_daily_Value)) (hc : Ctx G (.box b_ [.func (.func 76) #[] #[]] 140 :: Lf) w) {res : Bool} (hF : slices_ContainsFunc_Ldaily_Value_daily_Value N s_ = some res) : Calls Try.prog 100 #[.slice s__p s_.length s__c, .func (.func 101) #[] #[.pointer (some ⟨b_, 0, none⟩)]] w (fun e w => e = .returned (.bool res) ∧ Ctx G (.box b_ [.func (.func 76) #[] #[]] 140 :: Lf) w) := by
  unfold slices_ContainsFunc_Ldaily_Value_daily_Value at hF
  refine fnIn (args := [.slice s__p s_.length s__c, .func (.func 101) #[] #[.pointer (some ⟨b_, 0, none⟩)]]) Try.func100 rfl Try.ntmps100 rfl fun a hf => ?_
  refine wp_seq_k fun K1 h1 => ?_
  refine cReg ?_
  refine stP hf rfl rfl rfl (pA rfl) fun a hf => ?_
  refine cNil ?_
  refine h1 _ _ ?_
  refine wp_seq_k fun K2 h2 => ?_
  refine cReg ?_
  refine stP hf rfl rfl rfl (pM rfl) fun a hf => ?_
  refine stP hf rfl rfl rfl (pM rfl) fun a hf => ?_
  obtain ⟨r, hr, hF⟩ := bnd_some hF
  refine stE hf hc rfl rfl rfl (eC (v := .int .i64 r) (vs := [.slice s__p s_.length s__c, .func (.func 101) #[] #[.pointer (some ⟨b_, 0, none⟩)]]) (caps := []) en_125 rfl rfl rfl rfl (fun w hc => (slices_IndexFunc_Ldaily_Value_daily_Value_ok s_ h_s_ (hc.pick k0) hr).mono fun e w h => ⟨h.1, (h.2.unpick k0)⟩)) fun a w hf hc => ?_
  refine stP hf rfl rfl rfl (pGe rfl rfl) fun a hf => ?_
  refine stP hf rfl rfl rfl (pA rfl) fun a hf => ?_
  refine cNil ?_
  refine h2 _ _ ?_
  refine wp_ret ?_
  obtain rfl := Option.some.inj hF
  exact fnOut1 (by simp) rfl Try.results100 hf hc (show look _ 4 = _ from rfl) ⟨rfl, hc⟩

def daily_every_daily_Value (N : Nat) (l : List daily_Value) : Option (Bool) :=
  Option.bind (slices_ContainsFunc_Ldaily_Value_daily_Value N l) fun r =>
  some (!r)
theorem daily_every_daily_Value_ok {N : Nat} {G : Pers} {Lf : List Ent} {w : World} (l : List daily_Value) {l_p : Option Addr} {l_c : Nat} (h_l : Rd G 3 l_p l_c (l.map enc_daily_Value)) (hc : Ctx G (Lf) w) {res : Bool} (hF : daily_every_daily_Value N l = some res) : Calls Try.prog 75 #[.slice l_p l.length l_c, .func (.func 76) #[] #[]] w (fun e w => e = .returned (.bool res) ∧ Ctx G (Lf) w) := by
  unfold daily_every_daily_Value at hF
  refine fnIn (args := [.slice l_p l.length l_c, .func (.func 76) #[] #[]]) Try.func75 rfl Try.ntmps75 rfl fun a hf => ?_
  refine wp_seq_k fun K1 h1 => ?_
  refine cReg ?_
  refine stBx (cs := [.func (.func 76) #[] #[]]) hf hc rfl rfl rfl rfl fun b_1 a w hf hc => ?_
  refine stP hf rfl rfl rfl (pA rfl) fun a hf => ?_
  refine cNil ?_
  refine h1 _ _ ?_
  refine wp_seq_k fun K2 h2 => ?_
  refine cReg ?_
  refine stP hf rfl rfl rfl (pM rfl) fun a hf => ?_
  refine stP hf rfl rfl rfl (pMF (us := [.pointer (some ⟨b_1, 0, none⟩)]) rfl rfl) fun a hf => ?_
  obtain ⟨r, hr, hF⟩ := bnd_some hF
  refine stE hf hc rfl rfl rfl (eC (v := .bool r) (vs := [.slice l_p l.length l_c, .func (.func 101) #[] #[.pointer (some ⟨b_1, 0, none⟩)]]) (caps := []) en_100 rfl rfl rfl rfl (fun w hc => (slices_ContainsFunc_Ldaily_Value_daily_Value_ok l h_l (hc.pick k0) hr).mono fun e w h => ⟨h.1, (h.2.unpick k0)⟩)) fun a w hf hc => ?_
  refine stP hf rfl rfl rfl (pNot rfl) fun a hf => ?_
  refine stP hf rfl rfl rfl (pA rfl) fun a hf => ?_
  refine cNil ?_
  refine h2 _ _ ?_
  refine wp_ret ?_
  obtain rfl := Option.some.inj hF
  replace hc := hc.drop k0
  exact fnOut1 (by simp) rfl Try.results75 hf hc (show look _ 4 = _ from rfl) ⟨rfl, hc⟩

def daily_Check (N : Nat) (r : daily_Record) : Option (Int) :=
  cond (!(daily_in ((r.Days.length : Nat) : Int) 1 60))
  (some 3)
  (Option.bind (cond ((!(daily_flow r.Rise)) || (!(daily_flow r.Fall))) (some true) (Option.bind (daily_every_daily_Value N r.Days) fun r_0 =>
  some (!r_0))) fun t_1 =>
  cond t_1
  (some 80)
  (some 0))
theorem daily_Check_ok {N : Nat} {G : Pers} {Lf : List Ent} {w : World} (r : daily_Record) {r_Days_p : Option Addr} {r_Days_c : Nat} (h_r_Days : Rd G 3 r_Days_p r_Days_c (r.Days.map enc_daily_Value)) (hc : Ctx G (Lf) w) {res : Int} (hF : daily_Check N r = some res) : Calls Try.prog 34 #[.agg #[.int .i64 r.Rise, .int .i64 r.Fall, .slice r_Days_p r.Days.length r_Days_c]] w (fun e w => e = .returned (.int .i64 res) ∧ Ctx G (Lf) w) := by
  unfold daily_Check at hF
  refine fnIn (args := [.agg #[.int .i64 r.Rise, .int .i64 r.Fall, .slice r_Days_p r.Days.length r_Days_c]]) Try.func34 rfl Try.ntmps34 rfl fun a hf => ?_
  refine wp_seq_k fun K1 h1 => ?_
  refine cReg ?_
  refine stBx (cs := [.int .i64 r.Rise, .int .i64 r.Fall, .slice r_Days_p r.Days.length r_Days_c]) hf hc rfl rfl rfl rfl fun b_1 a w hf hc => ?_
  refine stP hf rfl rfl rfl (pA rfl) fun a hf => ?_
  refine cNil ?_
  refine h1 _ _ ?_
  refine wp_seq_k fun K2 h2 => ?_
  refine wp_block ?_
  refine wp_seq_k fun K3 h3 => ?_
  refine cReg ?_
  refine stP hf rfl rfl rfl (pFA fa_24_2 rfl) fun a hf => ?_
  refine stE hf hc rfl rfl rfl (eLd1 sc_22 rfl (cell_box m0 rfl)) fun a w hf hc => ?_
  refine stP hf rfl rfl rfl (pLenS Try.underlying22 rfl) fun a hf => ?_
  refine stE hf hc rfl rfl rfl (eC (v := .bool (daily_in ((r.Days.length : Nat) : Int) 1 60)) (vs := [.int .i64 ((r.Days.length : Nat) : Int), .int .i64 1, .int .i64 60]) (caps := []) en_60 rfl rfl rfl rfl (fun w hc => daily_in_ok ((r.Days.length : Nat) : Int) 1 60 hc rfl)) fun a w hf hc => ?_
  refine stP hf rfl rfl rfl (pNot rfl) fun a hf => ?_
  refine stP hf rfl rfl rfl (pA rfl) fun a hf => ?_
  refine cNil ?_
  refine h3 _ _ ?_
  refine cCond (b := (!(daily_in ((r.Days.length : Nat) : Int) 1 60))) hf rfl (fun hb => ?_) (fun hb => ?_)
  · replace hF := condT hb hF
    clear hb
    refine wp_seq_k fun K4 h4 => ?_
    refine cReg ?_
    refine stP hf rfl rfl rfl (pA rfl) fun a hf => ?_
    refine cNil ?_
    refine h4 _ _ ?_
    refine wp_ret ?_
    refine xBlkR ?_
    refine xThenR ?_
    obtain rfl := Option.some.inj hF
    replace hc := hc.drop k0
    exact fnOut1 (by simp) rfl Try.results34 hf hc (show look _ 2 = _ from rfl) ⟨rfl, hc⟩
  · replace hF := condF hb hF
    clear hb
    refine wp_seq_k fun K5 h5 => ?_
    refine cReg ?_
    refine stP hf rfl rfl rfl (pFA fa_24_0 rfl) fun a hf => ?_
    refine stE hf hc rfl rfl rfl (eLd1 sc_3 rfl (cell_box m0 rfl)) fun a w hf hc => ?_
    refine stE hf hc rfl rfl rfl (eC (v := .bool (daily_flow r.Rise)) (vs := [.int .i64 r.Rise]) (caps := []) en_74 rfl rfl rfl rfl (fun w hc => daily_flow_ok r.Rise hc rfl)) fun a w hf hc => ?_
    refine stP hf rfl rfl rfl (pNot rfl) fun a hf => ?_
    refine stP hf rfl rfl rfl (pM rfl) fun a hf => ?_
    refine stCut 5 (fun a w => Has 26 a [(1, .pointer (some ⟨b_1, 0, none⟩)), (10, .pointer (some ⟨b_1, 0, none⟩)), (11, .int .i64 r.Rise), (12, .bool (daily_flow r.Rise)), (13, .bool (!(daily_flow r.Rise))), (14, .bool (!(daily_flow r.Rise))), (19, .bool ((!(daily_flow r.Rise)) || (!(daily_flow r.Fall))))] ∧ Ctx G (.box b_1 [.int .i64 r.Rise, .int .i64 r.Fall, .slice r_Days_p r.Days.length r_Days_c] 24 :: Lf) w) ?_ ?_
    · cases hb : (!(daily_flow r.Rise))
      · rw [hb] at hf
        refine stP hf rfl rfl rfl (pFA fa_24_1 rfl) fun a hf => ?_
        refine stE hf hc rfl rfl rfl (eLd1 sc_3 rfl (cell_box m0 rfl)) fun a w hf hc => ?_
        refine stE hf hc rfl rfl rfl (eC (v := .bool (daily_flow r.Fall)) (vs := [.int .i64 r.Fall]) (caps := []) en_74 rfl rfl rfl rfl (fun w hc => daily_flow_ok r.Fall hc rfl)) fun a w hf hc => ?_
        refine stP hf rfl rfl rfl (pNot rfl) fun a hf => ?_
        refine stP hf rfl rfl rfl (pPf rfl rfl) fun a hf => ?_
        exact cNil ⟨hf.keep ⟨rfl, rfl, rfl, rfl, rfl, rfl, rfl, trivial⟩, hc⟩
      · rw [hb] at hf
        refine stS hf rfl rfl rfl fun a hf => ?_
        refine stS hf rfl rfl rfl fun a hf => ?_
        refine stS hf rfl rfl rfl fun a hf => ?_
        refine stS hf rfl rfl rfl fun a hf => ?_
        refine stP hf rfl rfl rfl (pPt rfl rfl) fun a hf => ?_
        exact cNil ⟨hf.keep ⟨rfl, rfl, rfl, rfl, rfl, rfl, rfl, trivial⟩, hc⟩
    intro a w ⟨hf, hc⟩
    refine stP hf rfl rfl rfl (pM rfl) fun a hf => ?_
    obtain ⟨t_1, ht_1, hF⟩ := bnd_some hF
    refine stCut 5 (fun a w => Has 26 a [(1, .pointer (some ⟨b_1, 0, none⟩)), (10, .pointer (some ⟨b_1, 0, none⟩)), (11, .int .i64 r.Rise), (12, .bool (daily_flow r.Rise)), (13, .bool (!(daily_flow r.Rise))), (14, .bool (!(daily_flow r.Rise))), (19, .bool ((!(daily_flow r.Rise)) || (!(daily_flow r.Fall)))), (20, .bool ((!(daily_flow r.Rise)) || (!(daily_flow r.Fall)))), (25, .bool t_1)] ∧ Ctx G (.box b_1 [.int .i64 r.Rise, .int .i64 r.Fall, .slice r_Days_p r.Days.length r_Days_c] 24 :: Lf) w) ?_ ?_
    · cases hb : ((!(daily_flow r.Rise)) || (!(daily_flow r.Fall)))
      · rw [hb] at hf
        have hF := condF hb ht_1
        refine stP hf rfl rfl rfl (pFA fa_24_2 rfl) fun a hf => ?_
        refine stE hf hc rfl rfl rfl (eLd1 sc_22 rfl (cell_box m0 rfl)) fun a w hf hc => ?_
        obtain ⟨r_0, hr_0, hF⟩ := bnd_some hF
        refine stE hf hc rfl rfl rfl (eC (v := .bool r_0) (vs := [.slice r_Days_p r.Days.length r_Days_c, .func (.func 76) #[] #[]]) (caps := []) en_75 rfl rfl rfl rfl (fun w hc => daily_every_daily_Value_ok r.Days h_r_Days hc hr_0)) fun a w hf hc => ?_
        refine stP hf rfl rfl rfl (pNot rfl) fun a hf => ?_
        refine stP hf rfl rfl rfl (pPf rfl rfl) fun a hf => ?_
        obtain rfl := Option.some.inj hF
        exact cNil ⟨hf.keep ⟨rfl, rfl, rfl, rfl, rfl, rfl, rfl, rfl, rfl, trivial⟩, hc⟩
      · rw [hb] at hf
        have hF := condT hb ht_1
        obtain rfl := Option.some.inj hF
        refine stS hf rfl rfl rfl fun a hf => ?_
        refine stS hf rfl rfl rfl fun a hf => ?_
        refine stS hf rfl rfl rfl fun a hf => ?_
        refine stS hf rfl rfl rfl fun a hf => ?_
        refine stP hf rfl rfl rfl (pPt rfl rfl) fun a hf => ?_
        exact cNil ⟨hf.keep ⟨rfl, rfl, rfl, rfl, rfl, rfl, rfl, rfl, rfl, trivial⟩, hc⟩
    intro a w ⟨hf, hc⟩
    refine stP hf rfl rfl rfl (pA rfl) fun a hf => ?_
    refine cNil ?_
    refine h5 _ _ ?_
    refine cCond (b := t_1) hf rfl (fun hb => ?_) (fun hb => ?_)
    · replace hF := condT hb hF
      clear hb
      refine wp_seq_k fun K6 h6 => ?_
      refine cReg ?_
      refine stP hf rfl rfl rfl (pA rfl) fun a hf => ?_
      refine cNil ?_
      refine h6 _ _ ?_
      refine wp_ret ?_
      refine xBlkR ?_
      refine xThenR ?_
      obtain rfl := Option.some.inj hF
      replace hc := hc.drop k0
      exact fnOut1 (by simp) rfl Try.results34 hf hc (show look _ 2 = _ from rfl) ⟨rfl, hc⟩
    · replace hF := condF hb hF
      clear hb
      refine wp_skip ?_
      refine h2 _ _ ?_
      refine wp_seq_k fun K7 h7 => ?_
      refine cReg ?_
      refine stP hf rfl rfl rfl (pA rfl) fun a hf => ?_
      refine cNil ?_
      refine h7 _ _ ?_
      refine wp_ret ?_
      obtain rfl := Option.some.inj hF
      replace hc := hc.drop k0
      exact fnOut1 (by simp) rfl Try.results34 hf hc (show look _ 2 = _ from rfl) ⟨rfl, hc⟩

def daily_Value_span (N : Nat) (v : daily_Value) : Option (api_Span) :=
  cond v.Known
  (some v.Flow)
  (some (⟨0, 1000000000⟩ : api_Span))
theorem daily_Value_span_ok {N : Nat} {G : Pers} {Lf : List Ent} {w : World} (v : daily_Value)   (hc : Ctx G (Lf) w) {res : api_Span} (hF : daily_Value_span N v = some res) : Calls Try.prog 72 #[.agg #[.bool v.Known, .int .i64 v.Flow.Lo, .int .i64 v.Flow.Hi]] w (fun e w => e = .returned (.agg #[.int .i64 res.Lo, .int .i64 res.Hi]) ∧ Ctx G (Lf) w) := by
  unfold daily_Value_span at hF
  refine fnIn (args := [.agg #[.bool v.Known, .int .i64 v.Flow.Lo, .int .i64 v.Flow.Hi]]) Try.func72 rfl Try.ntmps72 rfl fun a hf => ?_
  refine wp_seq_k fun K1 h1 => ?_
  refine cReg ?_
  refine stBx (cs := [.bool v.Known, .int .i64 v.Flow.Lo, .int .i64 v.Flow.Hi]) hf hc rfl rfl rfl rfl fun b_1 a w hf hc => ?_
  refine stAl (cs := [.int .i64 0, .int .i64 0]) hf hc rfl rfl zr_30 rfl fun b_2 a w hf hc => ?_
  refine cNil ?_
  refine h1 _ _ ?_
  refine wp_seq_k fun K2 h2 => ?_
  refine wp_seq_k fun K3 h3 => ?_
  refine cReg ?_
  refine stP hf rfl rfl rfl (pFA fa_56_0 rfl) fun a hf => ?_
  refine stE hf hc rfl rfl rfl (eLd1 sc_4 rfl (cell_box m1 rfl)) fun a w hf hc => ?_
  refine cNil ?_
  refine h3 _ _ ?_
  refine cCond (b := v.Known) hf rfl (fun hb => ?_) (fun hb => ?_)
  · replace hF := condT hb hF
    clear hb
    refine wp_seq_k fun K4 h4 => ?_
    refine cReg ?_
    refine stP hf rfl rfl rfl (pFA fa_56_1 rfl) fun a hf => ?_
    refine stE hf hc rfl rfl rfl (eLdN (vs := [.int .i64 v.Flow.Lo, .int .i64 v.Flow.Hi]) ag_30 rfl rfl (cells_box (n := 2) m1 rfl)) fun a w hf hc => ?_
    refine stSt (vs := [.int .i64 v.Flow.Lo, .int .i64 v.Flow.Hi]) hf hc rfl rfl rfl rfl sz_30 rfl rfl u0 fun w hc => ?_
    refine cNil ?_
    refine h4 _ _ ?_
    refine wp_ret ?_
    refine xThenR ?_
    obtain rfl := Option.some.inj hF
    replace hc := hc.drop k1
    exact fnOut1 (by simp) rfl Try.results72 hf hc (rv_cellN (vs := [.int .i64 v.Flow.Lo, .int .i64 v.Flow.Hi]) ag_30 rfl rfl (cells_box (n := 2) m0 rfl)) ⟨rfl, (hc.drop k0)⟩
  · replace hF := condF hb hF
    clear hb
    refine wp_skip ?_
    refine h2 _ _ ?_
    refine wp_seq_k fun K5 h5 => ?_
    refine cReg ?_
    refine stP hf rfl rfl rfl (pBuildS (cells := [.int .i64 0, .int .i64 1000000000]) bt_30 rfl rfl) fun a hf => ?_
    refine stSt (vs := [.int .i64 0, .int .i64 1000000000]) hf hc rfl rfl rfl rfl sz_30 rfl rfl u0 fun w hc => ?_
    refine cNil ?_
    refine h5 _ _ ?_
    refine wp_ret ?_
    obtain rfl := Option.some.inj hF
    replace hc := hc.drop k1
    exact fnOut1 (by simp) rfl Try.results72 hf hc (rv_cellN (vs := [.int .i64 0, .int .i64 1000000000]) ag_30 rfl rfl (cells_box (n := 2) m0 rfl)) ⟨rfl, (hc.drop k0)⟩

def daily_work_pairs (N : Nat) (w_ : daily_work) (back : Bool) : Option (Bool) :=
  some back
theorem daily_work_pairs_ok {N : Nat} {G : Pers} {Lf : List Ent} {w : World} (w_ : daily_work) (back : Bool) {b_ : Nat} {w__Record_Days_p : Option Addr} {w__Record_Days_c : Nat} {w__spans_p : Option Addr} {w__spans_c : Nat} (h_w__Record_Days : Rd G 3 w__Record_Days_p w__Record_Days_c (w_.Record.Days.map enc_daily_Value)) (h_w__spans : Rd G 2 w__spans_p w__spans_c (w_.spans.map enc_api_Span)) (hc : Ctx G (.box b_ [.int .i64 w_.Record.Rise, .int .i64 w_.Record.Fall, .slice w__Record_Days_p w_.Record.Days.length w__Record_Days_c, .slice w__spans_p w_.spans.length w__spans_c] 120 :: Lf) w) {res : Bool} (hF : daily_work_pairs N w_ back = some res) : Calls Try.prog 122 #[.pointer (some ⟨b_, 0, none⟩), .bool back] w (fun e w => ∃ (b'1 : Nat) (b'2 : Nat), e = .returned (.func (.func 142) #[] #[.pointer (some ⟨b'1, 0, none⟩), .pointer (some ⟨b'2, 0, none⟩)]) ∧ Ctx G (.box b'1 [.pointer (some ⟨b_, 0, none⟩)] 116 :: .box b'2 [.bool res] 4 :: .box b_ [.int .i64 w_.Record.Rise, .int .i64 w_.Record.Fall, .slice w__Record_Days_p w_.Record.Days.length w__Record_Days_c, .slice w__spans_p w_.spans.length w__spans_c] 120 :: Lf) w) := by
  unfold daily_work_pairs at hF
  refine fnIn (args := [.pointer (some ⟨b_, 0, none⟩), .bool back]) Try.func122 rfl Try.ntmps122 rfl fun a hf => ?_
  refine wp_seq_k fun K1 h1 => ?_
  refine cReg ?_
  refine stBx (cs := [.pointer (some ⟨b_, 0, none⟩)]) hf hc rfl rfl rfl rfl fun b_1 a w hf hc => ?_
  refine stBx (cs := [.bool back]) hf hc rfl rfl rfl rfl fun b_2 a w hf hc => ?_
  refine stP hf rfl rfl rfl (pA rfl) fun a hf => ?_
  refine cNil ?_
  refine h1 _ _ ?_
  refine wp_seq_k fun K2 h2 => ?_
  refine cReg ?_
  refine stP hf rfl rfl rfl (pMF (us := [.pointer (some ⟨b_1, 0, none⟩), .pointer (some ⟨b_2, 0, none⟩)]) rfl rfl) fun a hf => ?_
  refine stP hf rfl rfl rfl (pA rfl) fun a hf => ?_
  refine cNil ?_
  refine h2 _ _ ?_
  refine wp_ret ?_
  obtain rfl := Option.some.inj hF
  replace hc := hc.pick k0
  replace hc := hc.pick k1
  exact fnOut1 (by simp) rfl Try.results122 hf hc (show look _ 4 = _ from rfl) ⟨b_1, b_2, rfl, hc⟩

def daily_work_pairs_1_j9 (N : Nat) {σ : Type} (y : σ → (Int × Int) → Option (σ × Bool)) (x_0 : Int) (a_1 : Int) (b_1 : Int) (sg_1 : σ) : Option (Step (Int × σ) (σ)) :=
  Option.bind (y sg_1 (a_1, b_1)) fun ry =>
  cond (!ry.2)
  (some (.ret ry.1))
  (some (.cont (W (x_0 + 1), ry.1)))
def daily_work_pairs_1_b3 (N : Nat) {σ : Type} (x_2 : List daily_Value) (x_3 : Bool) (y : σ → (Int × Int) → Option (σ × Bool)) (x_0 : Int) (sg : σ) : Option (Step (Int × σ) (σ)) :=
  cond (decide (x_0 < (W (((x_2.length : Nat) : Int) - 1))))
  (cond x_3
  (daily_work_pairs_1_j9 N y x_0 (W ((W (((x_2.length : Nat) : Int) - 1)) - x_0)) (W ((W (((x_2.length : Nat) : Int) - 2)) - x_0)) sg)
  (daily_work_pairs_1_j9 N y x_0 x_0 (W (x_0 + 1)) sg))
  (some (.brk (x_0, sg)))
def daily_work_pairs_1 (N : Nat) {σ : Type} (x : Int) (x_1 : Int) (x_2 : List daily_Value) (x_3 : Bool) (y : σ → (Int × Int) → Option (σ × Bool)) (sg0 : σ) : Option (σ) :=
  Option.bind (loopO (fun s3 => daily_work_pairs_1_b3 N x_2 x_3 y s3.1 s3.2) N (0, sg0)) fun x3 =>
  exK x3 (fun s3 => some s3.2) some
theorem daily_work_pairs_1_ok {N : Nat} {G : Pers} {Lf : List Ent} {w : World} {σ : Type} (x : Int) (x_1 : Int) (x_2 : List daily_Value) (x_3 : Bool) {b_ : Nat} {b__1 : Nat} {x_2_p : Option Addr} {x_2_c : Nat} {x_o_p : Option Addr} {x_o_n : Nat} {x_o_c : Nat} {b__2 : Nat} (h_x_2 : Rd G 3 x_2_p x_2_c (x_2.map enc_daily_Value)) (J : σ → List Ent → Prop) (y : σ → (Int × Int) → Option (σ × Bool)) {l : Nat} (hy : YieldsTo Try.prog G l (fun x : (Int × Int) => [.int .i64 x.1, .int .i64 x.2]) J y) (sg0 : σ) {Ls0 : List Ent} (hJ0 : J sg0 Ls0) (hJe : ∀ (o : σ) (L : List Ent), J o L → ∃ A B, L = A ++ (.box b__1 [.int .i64 x, .int .i64 x_1, .slice x_2_p x_2.length x_2_c, .slice x_o_p x_o_n x_o_c] 120 :: B)) (hc : Ctx G (.box b_ [.pointer (some ⟨b__1, 0, none⟩)] 116 :: .box b__2 [.bool x_3] 4 :: (Ls0 ++ Lf)) w) {res : σ} (hF : daily_work_pairs_1 N x x_1 x_2 x_3 y sg0 = some res) : Calls Try.prog 142 #[.func (.yield l) #[] #[], .pointer (some ⟨b_, 0, none⟩), .pointer (some ⟨b__2, 0, none⟩)] w (fun e w => (∃ v, e = .returned v) ∧ ∃ L, J res L ∧ Ctx G (.box b_ [.pointer (some ⟨b__1, 0, none⟩)] 116 :: .box b__2 [.bool x_3] 4 :: (L ++ Lf)) w) := by
  unfold daily_work_pairs_1 at hF
  refine fnIn (args := [.func (.yield l) #[] #[], .pointer (some ⟨b_, 0, none⟩), .pointer (some ⟨b__2, 0, none⟩)]) Try.func142 rfl Try.ntmps142 rfl fun a hf => ?_
  refine wp_seq_k fun K1 h1 => ?_
  obtain ⟨As, Bs, hsh_⟩ := hJe _ _ hJ0
  rw [hsh_] at hc hJ0
  replace hc : Ctx G (.box b_ [.pointer (some ⟨b__1, 0, none⟩)] 116 :: .box b__2 [.bool x_3] 4 :: ((As ++ (.box b__1 [.int .i64 x, .int .i64 x_1, .slice x_2_p x_2.length x_2_c, .slice x_o_p x_o_n x_o_c] 120 :: Bs)) ++ Lf)) w := hc
  replace hc : Ctx G (.box b__1 [.int .i64 x, .int .i64 x_1, .slice x_2_p x_2.length x_2_c, .slice x_o_p x_o_n x_o_c] 120 :: .box b_ [.pointer (some ⟨b__1, 0, none⟩)] 116 :: .box b__2 [.bool x_3] 4 :: ((As ++ Bs) ++ Lf)) w := shOut [.box b_ [.pointer (some ⟨b__1, 0, none⟩)] 116, .box b__2 [.bool x_3] 4] hc
  refine cReg ?_
  refine stE hf hc rfl rfl rfl (eLd1 sc_116 rfl (cell_box m1 rfl)) fun a w hf hc => ?_
  refine stP hf rfl rfl rfl (pNC rfl) fun a hf => ?_
  refine stP hf rfl rfl rfl (pFA fa_120_0 rfl) fun a hf => ?_
  refine stP hf rfl rfl rfl (pFA fa_24_2 rfl) fun a hf => ?_
  refine stE hf hc rfl rfl rfl (eLd1 sc_22 rfl (cell_box m0 rfl)) fun a w hf hc => ?_
  refine stP hf rfl rfl rfl (pLenS Try.underlying22 rfl) fun a hf => ?_
  refine stP hf rfl rfl rfl (pSub rfl rfl) fun a hf => ?_
  refine stP hf rfl rfl rfl (pM rfl) fun a hf => ?_
  refine cNil ?_
  replace hc : Ctx G (.box b_ [.pointer (some ⟨b__1, 0, none⟩)] 116 :: .box b__2 [.bool x_3] 4 :: ((As ++ (.box b__1 [.int .i64 x, .int .i64 x_1, .slice x_2_p x_2.length x_2_c, .slice x_o_p x_o_n x_o_c] 120 :: Bs)) ++ Lf)) w := shIn [.box b_ [.pointer (some ⟨b__1, 0, none⟩)] 116, .box b__2 [.bool x_3] 4] hc
  refine h1 _ _ ?_
  refine wp_thenK fun K2 h2 => ?_
  refine wp_block ?_
  obtain ⟨x3, hx3, hF⟩ := bnd_some hF
  let S3 : (Int × σ) → Act → World → Prop := (fun (zz : Int × σ) a w => ∃ (Ls : List Ent), J zz.2 Ls ∧ Has 45 a [(0, .func (.yield l) #[] #[]), (1, .pointer (some ⟨b_, 0, none⟩)), (2, .pointer (some ⟨b__2, 0, none⟩)), (13, .int .i64 (W (((x_2.length : Nat) : Int) - 1))), (14, .int .i64 zz.1)] ∧ Ctx G (.box b_ [.pointer (some ⟨b__1, 0, none⟩)] 116 :: .box b__2 [.bool x_3] 4 :: (Ls ++ Lf)) w)
  have hr3 : ∀ (zz : Int × σ) a w, x3 = .go zz → S3 zz a w → K2 a w := by
    rintro ⟨x_0, sg⟩ a w rfl ⟨Ls, hJ, hf, hc⟩
    replace hF := exK_go hF
    refine h2 _ _ ?_
    obtain rfl := Option.some.inj hF
    exact fnOut0 (by simp) rfl Try.results142 hf ⟨⟨_, rfl⟩, Ls, hJ, hc⟩
  have ho3 : ∀ r, x3 = .out r → r = res := by
    rintro r rfl
    exact Option.some.inj hF
  refine cLoop N (loopW (S := S3) (x := x3) ?_ N (0, sg0) _ _ ⟨(As ++ (.box b__1 [.int .i64 x, .int .i64 x_1, .slice x_2_p x_2.length x_2_c, .slice x_o_p x_o_n x_o_c] 120 :: Bs)), hJ0, hf.keep ⟨rfl, rfl, rfl, rfl, rfl, trivial⟩, hc⟩ hx3)
  clear hF hf hc
  rintro ⟨x_0, sg⟩ st3 a w KB3 ⟨Ls, hJ, hf, hc⟩ hF hfin3 hK3
  unfold daily_work_pairs_1_b3 at hF
  refine wp_seq_k fun K4 h4 => ?_
  refine cReg ?_
  refine stP hf rfl rfl rfl (pLt rfl rfl) fun a hf => ?_
  refine cNil ?_
  refine h4 _ _ ?_
  refine wp_seq_k fun K5 h5 => ?_
  refine cCond (b := (decide (x_0 < (W (((x_2.length : Nat) : Int) - 1))))) hf rfl (fun hb => ?_) (fun hb => ?_)
  · replace hF := condT hb hF
    clear hb
    refine wp_skip ?_
    refine h5 _ _ ?_
    refine wp_seq_k fun K6 h6 => ?_
    refine wp_block ?_
    refine wp_seq_k fun K7 h7 => ?_
    refine cReg ?_
    refine stP hf rfl rfl rfl (pM rfl) fun a hf => ?_
    refine stP hf rfl rfl rfl (pA rfl) fun a hf => ?_
    refine cNil ?_
    refine h7 _ _ ?_
    refine wp_seq_k fun K8 h8 => ?_
    refine cReg ?_
    refine stP hf rfl rfl rfl (pM rfl) fun a hf => ?_
    refine stP hf rfl rfl rfl (pM rfl) fun a hf => ?_
    refine stP hf rfl rfl rfl (pAdd rfl rfl) fun a hf => ?_
    refine stP hf rfl rfl rfl (pA rfl) fun a hf => ?_
    refine stP hf rfl rfl rfl (pA rfl) fun a hf => ?_
    refine cNil ?_
    refine h8 _ _ ?_
    refine wp_seq_k fun K9 h9 => ?_
    have hj9 : ∀ (a_1 : Int) (b_1 : Int) (sg_1 : σ) (Ls_1 : List Ent) a w, J sg_1 Ls_1 → Has 45 a [(0, .func (.yield l) #[] #[]), (1, .pointer (some ⟨b_, 0, none⟩)), (2, .pointer (some ⟨b__2, 0, none⟩)), (5, .int .i64 a_1), (6, .int .i64 b_1), (13, .int .i64 (W (((x_2.length : Nat) : Int) - 1))), (14, .int .i64 x_0)] → Ctx G (.box b_ [.pointer (some ⟨b__1, 0, none⟩)] 116 :: .box b__2 [.bool x_3] 4 :: (Ls_1 ++ Lf)) w → daily_work_pairs_1_j9 N y x_0 a_1 b_1 sg_1 = some st3 → K9 a w := by
      repeat (clear hF)
      repeat (clear hc)
      repeat (clear hf)
      intro a_1 b_1 sg_1 Ls_1 a w hJ_1 hf hc hF
      unfold daily_work_pairs_1_j9 at hF
      refine h9 _ _ ?_
      refine wp_seq_k fun K10 h10 => ?_
      obtain ⟨ry, hry, hF⟩ := bnd_some hF
      refine yReg 3 (fun a w => Has 45 a [(0, .func (.yield l) #[] #[]), (1, .pointer (some ⟨b_, 0, none⟩)), (2, .pointer (some ⟨b__2, 0, none⟩)), (5, .int .i64 a_1), (6, .int .i64 b_1), (13, .int .i64 (W (((x_2.length : Nat) : Int) - 1))), (14, .int .i64 x_0), (39, .func (.yield l) #[] #[]), (40, .int .i64 a_1), (41, .int .i64 b_1)] ∧ Ctx G (.box b_ [.pointer (some ⟨b__1, 0, none⟩)] 116 :: .box b__2 [.bool x_3] 4 :: (Ls_1 ++ Lf)) w) (fun _ _ h => by obtain ⟨⟨_, h⟩, _⟩ := h; cases h) ?_ ?_
      · refine stP hf rfl rfl rfl (pM rfl) fun a hf => ?_
        refine stP hf rfl rfl rfl (pM rfl) fun a hf => ?_
        refine stP hf rfl rfl rfl (pM rfl) fun a hf => ?_
        exact cNil ⟨hf.keep ⟨rfl, rfl, rfl, rfl, rfl, rfl, rfl, rfl, rfl, rfl, trivial⟩, hc⟩
      rintro a w ⟨hf, hc⟩
      refine stY (own := [.box b_ [.pointer (some ⟨b__1, 0, none⟩)] 116, .box b__2 [.bool x_3] 4]) (v := (a_1, b_1)) hy hJ_1 hry hf hc rfl rfl rfl rfl rfl fun a w Ls_2 hJ_2 hf hc => ?_
      replace hc : Ctx G (.box b_ [.pointer (some ⟨b__1, 0, none⟩)] 116 :: .box b__2 [.bool x_3] 4 :: (Ls_2 ++ Lf)) w := hc
      refine yRest (fun _ _ h => by obtain ⟨⟨_, h⟩, _⟩ := h; cases h) ?_
      refine stP hf rfl rfl rfl (pNot rfl) fun a hf => ?_
      refine cNil ?_
      refine h10 _ _ ?_
      refine cCond (b := (!ry.2)) hf rfl (fun hb => ?_) (fun hb => ?_)
      · replace hF := condT hb hF
        clear hb
        refine wp_ret ?_
        refine xBlkR ?_
        refine xThenR ?_
        refine xThenR ?_
        have he := Option.some.inj hF
        rw [← he] at hfin3
        replace hF := ho3 _ hfin3
        refine xBlkR ?_
        refine xThenR ?_
        obtain rfl := hF
        exact fnOut0 (by simp) rfl Try.results142 hf ⟨⟨_, rfl⟩, Ls_2, hJ_2, hc⟩
      · replace hF := condF hb hF
        clear hb
        refine wp_skip ?_
        refine h6 _ _ ?_
        refine cReg ?_
        refine stP hf rfl rfl rfl (pAdd rfl rfl) fun a hf => ?_
        refine stP hf rfl rfl rfl (pM rfl) fun a hf => ?_
        refine cNil ?_
        exact hK3 (W (x_0 + 1), ry.1) _ _ (Option.some.inj hF).symm ⟨Ls_2, hJ_2, hf.keep ⟨rfl, rfl, rfl, rfl, rfl, trivial⟩, hc⟩
    refine wp_seq_k fun K11 h11 => ?_
    refine cReg ?_
    refine stE hf hc rfl rfl rfl (eLd1 sc_4 rfl (cell_box m1 rfl)) fun a w hf hc => ?_
    refine cNil ?_
    refine h11 _ _ ?_
    refine cCond (b := x_3) hf rfl (fun hb => ?_) (fun hb => ?_)
    · replace hF := condT hb hF
      clear hb
      obtain ⟨As_1, Bs_1, hsh_⟩ := hJe _ _ hJ
      rw [hsh_] at hc hJ
      replace hc : Ctx G (.box b_ [.pointer (some ⟨b__1, 0, none⟩)] 116 :: .box b__2 [.bool x_3] 4 :: ((As_1 ++ (.box b__1 [.int .i64 x, .int .i64 x_1, .slice x_2_p x_2.length x_2_c, .slice x_o_p x_o_n x_o_c] 120 :: Bs_1)) ++ Lf)) w := hc
      replace hc : Ctx G (.box b__1 [.int .i64 x, .int .i64 x_1, .slice x_2_p x_2.length x_2_c, .slice x_o_p x_o_n x_o_c] 120 :: .box b_ [.pointer (some ⟨b__1, 0, none⟩)] 116 :: .box b__2 [.bool x_3] 4 :: ((As_1 ++ Bs_1) ++ Lf)) w := shOut [.box b_ [.pointer (some ⟨b__1, 0, none⟩)] 116, .box b__2 [.bool x_3] 4] hc
      refine cQ hc follows_mx (by kernel_rfl) ?_
      refine qE hf rfl rfl rfl (eLd1 sc_116 rfl (cell_box m1 rfl)) fun a hf => ?_
      refine qE hf rfl rfl rfl (Pu.ev (pNC rfl)) fun a hf => ?_
      refine qE hf rfl rfl rfl (Pu.ev (pFA fa_120_0 rfl)) fun a hf => ?_
      refine qE hf rfl rfl rfl (Pu.ev (pFA fa_24_2 rfl)) fun a hf => ?_
      refine qE hf rfl rfl rfl (eLd1 sc_22 rfl (cell_box m0 rfl)) fun a hf => ?_
      refine qE hf rfl rfl rfl (Pu.ev (pLenS Try.underlying22 rfl)) fun a hf => ?_
      refine qE hf rfl rfl rfl (Pu.ev (pSub rfl rfl)) fun a hf => ?_
      refine qE hf rfl rfl rfl (Pu.ev (pM rfl)) fun a hf => ?_
      refine qE hf rfl rfl rfl (Pu.ev (pSub rfl rfl)) fun a hf => ?_
      refine qE hf rfl rfl rfl (eLd1 sc_116 rfl (cell_box m1 rfl)) fun a hf => ?_
      refine qE hf rfl rfl rfl (Pu.ev (pNC rfl)) fun a hf => ?_
      refine qE hf rfl rfl rfl (Pu.ev (pFA fa_120_0 rfl)) fun a hf => ?_
      refine qE hf rfl rfl rfl (Pu.ev (pFA fa_24_2 rfl)) fun a hf => ?_
      refine qE hf rfl rfl rfl (eLd1 sc_22 rfl (cell_box m0 rfl)) fun a hf => ?_
      refine qE hf rfl rfl rfl (Pu.ev (pLenS Try.underlying22 rfl)) fun a hf => ?_
      refine qE hf rfl rfl rfl (Pu.ev (pSub rfl rfl)) fun a hf => ?_
      refine qE hf rfl rfl rfl (Pu.ev (pM rfl)) fun a hf => ?_
      refine qE hf rfl rfl rfl (Pu.ev (pSub rfl rfl)) fun a hf => ?_
      refine qE hf rfl rfl rfl (Pu.ev (pA rfl)) fun a hf => ?_
      refine qE hf rfl rfl rfl (Pu.ev (pA rfl)) fun a hf => ?_
      intro w hc
      replace hc : Ctx G (.box b_ [.pointer (some ⟨b__1, 0, none⟩)] 116 :: .box b__2 [.bool x_3] 4 :: ((As_1 ++ (.box b__1 [.int .i64 x, .int .i64 x_1, .slice x_2_p x_2.length x_2_c, .slice x_o_p x_o_n x_o_c] 120 :: Bs_1)) ++ Lf)) w := shIn [.box b_ [.pointer (some ⟨b__1, 0, none⟩)] 116, .box b__2 [.bool x_3] 4] hc
      exact hj9 (W ((W (((x_2.length : Nat) : Int) - 1)) - x_0)) (W ((W (((x_2.length : Nat) : Int) - 2)) - x_0)) sg (As_1 ++ (.box b__1 [.int .i64 x, .int .i64 x_1, .slice x_2_p x_2.length x_2_c, .slice x_o_p x_o_n x_o_c] 120 :: Bs_1)) _ _ hJ (hf.keep ⟨rfl, rfl, rfl, rfl, rfl, rfl, rfl, trivial⟩) hc hF
    · replace hF := condF hb hF
      clear hb
      refine wp_skip ?_
      exact hj9 x_0 (W (x_0 + 1)) sg Ls _ _ hJ (hf.keep ⟨rfl, rfl, rfl, rfl, rfl, rfl, rfl, trivial⟩) hc hF
  · replace hF := condF hb hF
    clear hb
    refine wp_exit ?_
    refine xThen ?_
    refine xThen ?_
    have he := Option.some.inj hF
    rw [← he] at hfin3
    refine cHit ?_
    exact hr3 _ _ _ hfin3 ⟨Ls, hJ, hf.keep ⟨rfl, rfl, rfl, rfl, rfl, trivial⟩, hc⟩

def daily_opened_1 (N : Nat) (i_ : Int) (low : Int) (high : Int) (x : Int) (x_1 : Int) (x_2 : List daily_Value) (x_3 : List api_Span) : Option ((List api_Span)) :=
  Option.bind (getI x_3 i_) fun e_1 =>
  Option.bind (sameL ((x_3.set i_.toNat (⟨max e_1.Lo low, e_1.Hi⟩ : api_Span)).set i_.toNat (⟨max e_1.Lo low, min e_1.Hi high⟩ : api_Span)) x_3) fun _ =>
  some ((x_3.set i_.toNat (⟨max e_1.Lo low, e_1.Hi⟩ : api_Span)).set i_.toNat (⟨max e_1.Lo low, min e_1.Hi high⟩ : api_Span))
theorem daily_opened_1_ok {N : Nat} {G : Pers} {Lf : List Ent} {w : World} (i_ : Int) (low : Int) (high : Int) (x : Int) (x_1 : Int) (x_2 : List daily_Value) (x_3 : List api_Span) {b_ : Nat} {b__1 : Nat} {x_2_p : Option Addr} {x_2_c : Nat} {x_3_p : Option Addr} {x_3_c : Nat} (h_x_2 : Rd G 3 x_2_p x_2_c (x_2.map enc_daily_Value)) (hc : Ctx G (.box b_ [.pointer (some ⟨b__1, 0, none⟩)] 116 :: .box b__1 [.int .i64 x, .int .i64 x_1, .slice x_2_p x_2.length x_2_c, .slice x_3_p x_3.length x_3_c] 120 :: .row x_3_p x_3_c (x_3.map enc_api_Span) 30 2 :: Lf) w) {res : (List api_Span)} (hF : daily_opened_1 N i_ low high x x_1 x_2 x_3 = some res) : Calls Try.prog 121 #[.int .i64 i_, .int .i64 low, .int .i64 high, .pointer (some ⟨b_, 0, none⟩)] w (fun e w => e = .returned (.tuple #[]) ∧ res.length = x_3.length ∧ Ctx G (.box b_ [.pointer (some ⟨b__1, 0, none⟩)] 116 :: .box b__1 [.int .i64 x, .int .i64 x_1, .slice x_2_p x_2.length x_2_c, .slice x_3_p x_3.length x_3_c] 120 :: .row x_3_p x_3_c (res.map enc_api_Span) 30 2 :: Lf) w) := by
  unfold daily_opened_1 at hF
  refine fnIn (args := [.int .i64 i_, .int .i64 low, .int .i64 high, .pointer (some ⟨b_, 0, none⟩)]) Try.func121 rfl Try.ntmps121 rfl fun a hf => ?_
  refine wp_seq_k fun K1 h1 => ?_
  refine cReg ?_
  refine stE hf hc rfl rfl rfl (eLd1 sc_116 rfl (cell_box m0 rfl)) fun a w hf hc => ?_
  refine stP hf rfl rfl rfl (pNC rfl) fun a hf => ?_
  refine stP hf rfl rfl rfl (pFA fa_120_1 rfl) fun a hf => ?_
  refine stE hf hc rfl rfl rfl (eLd1 sc_25 rfl (cell_box m1 rfl)) fun a w hf hc => ?_
  refine stP hf rfl rfl rfl (pM rfl) fun a hf => ?_
  obtain ⟨e_1, he_1, hF⟩ := bnd_some hF
  obtain ⟨g, rfl, qa, qr⟩ := row_atm hc m2 he_1
  refine stP hf rfl rfl rfl (pIA Try.underlying25 sz_30 rfl rfl qa) fun a hf => ?_
  refine stP hf rfl rfl rfl (pA rfl) fun a hf => ?_
  refine cNil ?_
  refine h1 _ _ ?_
  refine regionE (fun θ => [⟨none, none, 1, .int .i64 low⟩, ⟨none, none, 2, .int .i64 high⟩, ⟨none, none, 7, .pointer (some ⟨g, i_.toNat * 2, none⟩)⟩, ⟨some 0, none, 14, .pointer (some ⟨g, i_.toNat * 2, none⟩)⟩, ⟨some 1, none, 15, .pointer (some ⟨g, i_.toNat * 2, none⟩)⟩, ⟨some 2, none, 16, .pointer (some ⟨g, i_.toNat * 2, none⟩)⟩, ⟨some 3, none, 17, .pointer (some ⟨g, i_.toNat * 2, none⟩)⟩, ⟨some 4, none, 18, .pointer (some ⟨g, i_.toNat * 2 + 0, none⟩)⟩, ⟨some 5, none, 19, .int .i64 e_1.Lo⟩, ⟨some 6, none, 20, .int .i64 low⟩, ⟨some 7, none, 21, .int .i64 (max e_1.Lo low)⟩, ⟨some 8, none, 22, .pointer (some ⟨g, i_.toNat * 2, none⟩)⟩, ⟨some 9, none, 23, .pointer (some ⟨g, i_.toNat * 2, none⟩)⟩, ⟨some 10, none, 24, .pointer (some ⟨g, i_.toNat * 2 + 1, none⟩)⟩, ⟨some 11, none, 25, .int .i64 e_1.Hi⟩, ⟨some 12, none, 26, .int .i64 high⟩, ⟨some 13, none, 27, .int .i64 (min e_1.Hi high)⟩, ⟨some 14, none, 28, .pointer (some ⟨g, i_.toNat * 2, none⟩)⟩, ⟨some 15, none, 29, .pointer (some ⟨g, i_.toNat * 2 + 0, none⟩)⟩, ⟨some 17, none, 30, .pointer (some ⟨g, i_.toNat * 2, none⟩)⟩, ⟨some 18, none, 31, .pointer (some ⟨g, i_.toNat * 2 + 1, none⟩)⟩]) (fun E θ => .box b_ [.pointer (some ⟨b__1, 0, none⟩)] 116 :: .box b__1 [.int .i64 x, .int .i64 x_1, .slice x_2_p x_2.length x_2_c, .slice (some ⟨g, 0, none⟩) x_3.length x_3_c] 120 :: (bif E 19 then .row (some ⟨g, 0, none⟩) x_3_c (((x_3.set i_.toNat (⟨max e_1.Lo low, e_1.Hi⟩ : api_Span)).set i_.toNat (⟨max e_1.Lo low, min e_1.Hi high⟩ : api_Span)).map enc_api_Span) 30 2 else bif E 16 then .row (some ⟨g, 0, none⟩) x_3_c ((x_3.set i_.toNat (⟨max e_1.Lo low, e_1.Hi⟩ : api_Span)).map enc_api_Span) 30 2 else .row (some ⟨g, 0, none⟩) x_3_c (x_3.map enc_api_Span) 30 2) :: Lf) [(16, 5), (19, 5), (16, 11), (19, 11), (19, 16)] (fun a w => Has 32 a [] ∧ Ctx G (.box b_ [.pointer (some ⟨b__1, 0, none⟩)] 116 :: .box b__1 [.int .i64 x, .int .i64 x_1, .slice x_2_p x_2.length x_2_c, .slice (some ⟨g, 0, none⟩) x_3.length x_3_c] 120 :: .row (some ⟨g, 0, none⟩) x_3_c (((x_3.set i_.toNat (⟨max e_1.Lo low, e_1.Hi⟩ : api_Span)).set i_.toNat (⟨max e_1.Lo low, min e_1.Hi high⟩ : api_Span)).map enc_api_Span) 30 2 :: Lf) w) follows_mx (by kernel_rfl) (by kernel_rfl) (HasE.of hf ⟨rfl, rfl, rfl, trivial, trivial, trivial, trivial, trivial, trivial, trivial, trivial, trivial, trivial, trivial, trivial, trivial, trivial, trivial, trivial, trivial, trivial, trivial⟩) hc ⟨?_, ?_, ?_, ?_, ?_, ?_, ?_, ?_, ?_, ?_, ?_, ?_, ?_, ?_, ?_, ?_, ?_, ?_, ?_, ?_, trivial⟩ ?_ ?_
  · intro E θ a w hD hi hp he hc
    have hf := he.h0
    replace hf := hf.more he 2 rfl onT
    refine stP hf rfl rfl rfl (pM rfl) fun a hf => ?_
    refine cNil ?_
    refine xThenN ?_
    intro ds u hau
    refine ⟨θ, he.put0 hi hau hf rfl 3 rfl rfl, ?_⟩
    exact hc
  · intro E θ a w hD hi hp he hc
    have hf := he.h0
    replace hf := hf.more he 2 rfl onT
    refine stP hf rfl rfl rfl (pM rfl) fun a hf => ?_
    refine cNil ?_
    refine xThenN ?_
    intro ds u hau
    refine ⟨θ, he.put0 hi hau hf rfl 4 rfl rfl, ?_⟩
    exact hc
  · intro E θ a w hD hi hp he hc
    have hf := he.h0
    replace hf := hf.more he 2 rfl onT
    refine stP hf rfl rfl rfl (pM rfl) fun a hf => ?_
    refine cNil ?_
    refine xThenN ?_
    intro ds u hau
    refine ⟨θ, he.put0 hi hau hf rfl 5 rfl rfl, ?_⟩
    exact hc
  · intro E θ a w hD hi hp he hc
    have e2 := hp.of (k := 2) rfl
    have hf := he.h0
    replace hf := hf.more he 5 rfl (onP e2)
    refine stP hf rfl rfl rfl (pNC rfl) fun a hf => ?_
    refine cNil ?_
    refine xThenN ?_
    intro ds u hau
    refine ⟨θ, he.put0 hi hau hf rfl 6 rfl rfl, ?_⟩
    exact hc
  · intro E θ a w hD hi hp he hc
    have e3 := hp.of (k := 3) rfl
    have hf := he.h0
    replace hf := hf.more he 6 rfl (onP e3)
    refine stP hf rfl rfl rfl (pFA fa_30_0 rfl) fun a hf => ?_
    refine cNil ?_
    refine xThenN ?_
    intro ds u hau
    refine ⟨θ, he.put0 hi hau hf rfl 7 rfl rfl, ?_⟩
    exact hc
  · intro E θ a w hD hi hp he hc
    have e4 := hp.of (k := 4) rfl
    have e16 := hD.f 0 rfl hi
    have e19 := hD.f 1 rfl hi
    try dsimp only at hc
    rw [e16, e19] at hc
    have hf := he.h0
    replace hf := hf.more he 7 rfl (onP e4)
    refine stE hf hc rfl rfl rfl (eLd1 sc_3 rfl (cell_row (sz := 2) (i := i_.toNat) (j := 0) m2 qr rfl)) fun a w hf hc => ?_
    refine cNil ?_
    refine xThenN ?_
    intro ds u hau
    refine ⟨θ, he.put0 hi hau hf rfl 8 rfl rfl, ?_⟩
    try dsimp only
    rw [updE_fls 5 e16 rfl, updE_fls 5 e19 rfl]
    exact hc
  · intro E θ a w hD hi hp he hc
    have hf := he.h0
    replace hf := hf.more he 0 rfl onT
    refine stP hf rfl rfl rfl (pM rfl) fun a hf => ?_
    refine cNil ?_
    refine xThenN ?_
    intro ds u hau
    refine ⟨θ, he.put0 hi hau hf rfl 9 rfl rfl, ?_⟩
    exact hc
  · intro E θ a w hD hi hp he hc
    have e5 := hp.of (k := 5) rfl
    have e6 := hp.of (k := 6) rfl
    have hf := he.h0
    replace hf := hf.more he 8 rfl (onP e5)
    replace hf := hf.more he 9 rfl (onP e6)
    refine stP hf rfl rfl rfl (pMax2 rfl rfl) fun a hf => ?_
    refine cNil ?_
    refine xThenN ?_
    intro ds u hau
    refine ⟨θ, he.put0 hi hau hf rfl 10 rfl rfl, ?_⟩
    exact hc
  · intro E θ a w hD hi hp he hc
    have hf := he.h0
    replace hf := hf.more he 2 rfl onT
    refine stP hf rfl rfl rfl (pM rfl) fun a hf => ?_
    refine cNil ?_
    refine xThenN ?_
    intro ds u hau
    refine ⟨θ, he.put0 hi hau hf rfl 11 rfl rfl, ?_⟩
    exact hc
  · intro E θ a w hD hi hp he hc
    have e8 := hp.of (k := 8) rfl
    have hf := he.h0
    replace hf := hf.more he 11 rfl (onP e8)
    refine stP hf rfl rfl rfl (pNC rfl) fun a hf => ?_
    refine cNil ?_
    refine xThenN ?_
    intro ds u hau
    refine ⟨θ, he.put0 hi hau hf rfl 12 rfl rfl, ?_⟩
    exact hc
  · intro E θ a w hD hi hp he hc
    have e9 := hp.of (k := 9) rfl
    have hf := he.h0
    replace hf := hf.more he 12 rfl (onP e9)
    refine stP hf rfl rfl rfl (pFA fa_30_1 rfl) fun a hf => ?_
    refine cNil ?_
    refine xThenN ?_
    intro ds u hau
    refine ⟨θ, he.put0 hi hau hf rfl 13 rfl rfl, ?_⟩
    exact hc
  · intro E θ a w hD hi hp he hc
    have e10 := hp.of (k := 10) rfl
    have e16 := hD.f 2 rfl hi
    have e19 := hD.f 3 rfl hi
    try dsimp only at hc
    rw [e16, e19] at hc
    have hf := he.h0
    replace hf := hf.more he 13 rfl (onP e10)
    refine stE hf hc rfl rfl rfl (eLd1 sc_3 rfl (cell_row (sz := 2) (i := i_.toNat) (j := 1) m2 qr rfl)) fun a w hf hc => ?_
    refine cNil ?_
    refine xThenN ?_
    intro ds u hau
    refine ⟨θ, he.put0 hi hau hf rfl 14 rfl rfl, ?_⟩
    try dsimp only
    rw [updE_fls 11 e16 rfl, updE_fls 11 e19 rfl]
    exact hc
  · intro E θ a w hD hi hp he hc
    have hf := he.h0
    replace hf := hf.more he 1 rfl onT
    refine stP hf rfl rfl rfl (pM rfl) fun a hf => ?_
    refine cNil ?_
    refine xThenN ?_
    intro ds u hau
    refine ⟨θ, he.put0 hi hau hf rfl 15 rfl rfl, ?_⟩
    exact hc
  · intro E θ a w hD hi hp he hc
    have e11 := hp.of (k := 11) rfl
    have e12 := hp.of (k := 12) rfl
    have hf := he.h0
    replace hf := hf.more he 14 rfl (onP e11)
    replace hf := hf.more he 15 rfl (onP e12)
    refine stP hf rfl rfl rfl (pMin2 rfl rfl) fun a hf => ?_
    refine cNil ?_
    refine xThenN ?_
    intro ds u hau
    refine ⟨θ, he.put0 hi hau hf rfl 16 rfl rfl, ?_⟩
    exact hc
  · intro E θ a w hD hi hp he hc
    have e0 := hp.of (k := 0) rfl
    have hf := he.h0
    replace hf := hf.more he 3 rfl (onP e0)
    refine stP hf rfl rfl rfl (pNC rfl) fun a hf => ?_
    refine cNil ?_
    refine xThenN ?_
    intro ds u hau
    refine ⟨θ, he.put0 hi hau hf rfl 17 rfl rfl, ?_⟩
    exact hc
  · intro E θ a w hD hi hp he hc
    have e14 := hp.of (k := 14) rfl
    have hf := he.h0
    replace hf := hf.more he 17 rfl (onP e14)
    refine stP hf rfl rfl rfl (pFA fa_30_0 rfl) fun a hf => ?_
    refine cNil ?_
    refine xThenN ?_
    intro ds u hau
    refine ⟨θ, he.put0 hi hau hf rfl 18 rfl rfl, ?_⟩
    exact hc
  · intro E θ a w hD hi hp he hc
    have e7 := hp.of (k := 7) rfl
    have e15 := hp.of (k := 15) rfl
    have e19 := hD.f 4 rfl hi
    try dsimp only at hc
    rw [hi, e19] at hc
    have hf := he.h0
    replace hf := hf.more he 10 rfl (onP e7)
    replace hf := hf.more he 18 rfl (onP e15)
    refine stRw (vs := [.int .i64 (max e_1.Lo low)]) (o' := 0) (z := (⟨max e_1.Lo low, e_1.Hi⟩ : api_Span)) (xs := x_3) hf hc rfl rfl rfl rfl sz_3 rfl (fun x => (one_enc_api_Span x).1) (getI_lt he_1) (fun e' he' => by cases (he'.symm.trans (getI_spec he_1).2); rfl) rfl u2 fun w hc => ?_
    refine cNil ?_
    refine xThenN ?_
    intro ds u hau
    refine ⟨θ, he.stay0 hi hau hf rfl, ?_⟩
    try dsimp only
    rw [updE_self E 16, updE_fls 16 e19 rfl]
    exact hc
  · intro E θ a w hD hi hp he hc
    have e1 := hp.of (k := 1) rfl
    have hf := he.h0
    replace hf := hf.more he 4 rfl (onP e1)
    refine stP hf rfl rfl rfl (pNC rfl) fun a hf => ?_
    refine cNil ?_
    refine xThenN ?_
    intro ds u hau
    refine ⟨θ, he.put0 hi hau hf rfl 19 rfl rfl, ?_⟩
    exact hc
  · intro E θ a w hD hi hp he hc
    have e17 := hp.of (k := 17) rfl
    have hf := he.h0
    replace hf := hf.more he 19 rfl (onP e17)
    refine stP hf rfl rfl rfl (pFA fa_30_1 rfl) fun a hf => ?_
    refine cNil ?_
    refine xThenN ?_
    intro ds u hau
    refine ⟨θ, he.put0 hi hau hf rfl 20 rfl rfl, ?_⟩
    exact hc
  · intro E θ a w hD hi hp he hc
    have e13 := hp.of (k := 13) rfl
    have e18 := hp.of (k := 18) rfl
    have e16 := hp.of (k := 16) rfl
    try dsimp only at hc
    rw [e16, hi] at hc
    have hf := he.h0
    replace hf := hf.more he 16 rfl (onP e13)
    replace hf := hf.more he 20 rfl (onP e18)
    refine stRw (vs := [.int .i64 (min e_1.Hi high)]) (o' := 1) (z := (⟨max e_1.Lo low, min e_1.Hi high⟩ : api_Span)) (xs := (x_3.set i_.toNat (⟨max e_1.Lo low, e_1.Hi⟩ : api_Span))) hf hc rfl rfl rfl rfl sz_3 rfl (fun x => (one_enc_api_Span x).1) (by simpa using getI_lt he_1) (fun e' he' => by rw [List.getElem?_set_self (by simpa using getI_lt he_1)] at he'; cases he'; rfl) rfl u2 fun w hc => ?_
    refine cNil ?_
    refine xThenN ?_
    intro ds u hau
    refine ⟨θ, he.stay0 hi hau hf rfl, ?_⟩
    try dsimp only
    rw [updE_tru 19 e16, updE_self E 19]
    exact hc
  · intro E θ a w hall he hc
    have hf := he.h0
    have e16 := hall 16 rfl
    have e19 := hall 19 rfl
    try dsimp only at hc
    rw [e16, e19] at hc
    exact ⟨hf.keep trivial, hc⟩
  rintro a w ⟨hf, hc⟩
  obtain ⟨_, hl0, hF⟩ := same_len hF
  obtain rfl := Option.some.inj hF
  exact fnOut0 (by simp) rfl Try.results121 hf ⟨rfl, hl0, hc⟩

def daily_opened_2 (s_ : api_Span) : Bool :=
  (decide (s_.Lo ≤ s_.Hi))
theorem daily_opened_2_ok {G : Pers} {Lf : List Ent} {w : World} (s_ : api_Span)   (hc : Ctx G (Lf) w) {res : Bool} (hF : daily_opened_2 s_ = res) : Calls Try.prog 123 #[.agg #[.int .i64 s_.Lo, .int .i64 s_.Hi]] w (fun e w => e = .returned (.bool res) ∧ Ctx G (Lf) w) := by
  unfold daily_opened_2 at hF
  refine fnIn (args := [.agg #[.int .i64 s_.Lo, .int .i64 s_.Hi]]) Try.func123 rfl Try.ntmps123 rfl fun a hf => ?_
  refine wp_seq_k fun K1 h1 => ?_
  refine cReg ?_
  refine stBx (cs := [.int .i64 s_.Lo, .int .i64 s_.Hi]) hf hc rfl rfl rfl rfl fun b_1 a w hf hc => ?_
  refine stP hf rfl rfl rfl (pA rfl) fun a hf => ?_
  refine cNil ?_
  refine h1 _ _ ?_
  refine wp_seq_k fun K2 h2 => ?_
  refine cReg ?_
  refine stP hf rfl rfl rfl (pFA fa_30_0 rfl) fun a hf => ?_
  refine stE hf hc rfl rfl rfl (eLd1 sc_3 rfl (cell_box m0 rfl)) fun a w hf hc => ?_
  refine stP hf rfl rfl rfl (pFA fa_30_1 rfl) fun a hf => ?_
  refine stE hf hc rfl rfl rfl (eLd1 sc_3 rfl (cell_box m0 rfl)) fun a w hf hc => ?_
  refine stP hf rfl rfl rfl (pLe rfl rfl) fun a hf => ?_
  refine stP hf rfl rfl rfl (pA rfl) fun a hf => ?_
  refine cNil ?_
  refine h2 _ _ ?_
  refine wp_ret ?_
  obtain rfl := hF
  replace hc := hc.drop k0
  exact fnOut1 (by simp) rfl Try.results123 hf hc (show look _ 2 = _ from rfl) ⟨rfl, hc⟩

def daily_every_api_Span_1 (x : api_Span) : Bool :=
  (!(daily_opened_2 x))
theorem daily_every_api_Span_1_ok {G : Pers} {Lf : List Ent} {w : World} (x : api_Span) {b_ : Nat}  (hc : Ctx G (.box b_ [.func (.func 123) #[] #[]] 130 :: Lf) w) {res : Bool} (hF : daily_every_api_Span_1 x = res) : Calls Try.prog 99 #[.agg #[.int .i64 x.Lo, .int .i64 x.Hi], .pointer (some ⟨b_, 0, none⟩)] w (fun e w => e = .returned (.bool res) ∧ Ctx G (.box b_ [.func (.func 123) #[] #[]] 130 :: Lf) w) := by
  unfold daily_every_api_Span_1 at hF
  refine fnIn (args := [.agg #[.int .i64 x.Lo, .int .i64 x.Hi], .pointer (some ⟨b_, 0, none⟩)]) Try.func99 rfl Try.ntmps99 rfl fun a hf => ?_
  refine wp_seq_k fun K1 h1 => ?_
  refine cReg ?_
  refine stBx (cs := [.int .i64 x.Lo, .int .i64 x.Hi]) hf hc rfl rfl rfl rfl fun b_1 a w hf hc => ?_
  refine stP hf rfl rfl rfl (pA rfl) fun a hf => ?_
  refine cNil ?_
  refine h1 _ _ ?_
  refine wp_seq_k fun K2 h2 => ?_
  refine cReg ?_
  refine stE hf hc rfl rfl rfl (eLd1 sc_130 rfl (cell_box m1 rfl)) fun a w hf hc => ?_
  refine stE hf hc rfl rfl rfl (eLdN (vs := [.int .i64 x.Lo, .int .i64 x.Hi]) ag_30 rfl rfl (cells_box (n := 2) m0 rfl)) fun a w hf hc => ?_
  refine stE hf hc rfl rfl rfl (eC (v := .bool (daily_opened_2 x)) (vs := [.agg #[.int .i64 x.Lo, .int .i64 x.Hi]]) (caps := []) en_123 rfl rfl rfl rfl (fun w hc => daily_opened_2_ok x hc rfl)) fun a w hf hc => ?_
  refine stP hf rfl rfl rfl (pNot rfl) fun a hf => ?_
  refine stP hf rfl rfl rfl (pA rfl) fun a hf => ?_
  refine cNil ?_
  refine h2 _ _ ?_
  refine wp_ret ?_
  obtain rfl := hF
  replace hc := hc.drop k0
  exact fnOut1 (by simp) rfl Try.results99 hf hc (show look _ 3 = _ from rfl) ⟨rfl, hc⟩

def slices_IndexFunc_Lapi_Span_api_Span_b4 (N : Nat) (s_ : List api_Span) (x : Int) : Option (Step (Int) (Int)) :=
  cond (decide (x < ((s_.length : Nat) : Int)))
  (Option.bind (getI s_ x) fun e_1 =>
  cond (daily_every_api_Span_1 e_1)
  (some (.ret x))
  (some (.cont (W (x + 1)))))
  (some (.brk x))
def slices_IndexFunc_Lapi_Span_api_Span (N : Nat) (s_ : List api_Span) : Option (Int) :=
  Option.bind (loopO (fun s4 => slices_IndexFunc_Lapi_Span_api_Span_b4 N s_ s4) N 0) fun x4 =>
  exK x4 (fun s4 => some (-1)) some
theorem slices_IndexFunc_Lapi_Span_api_Span_ok {N : Nat} {G : Pers} {Lf : List Ent} {w : World} (s_ : List api_Span) {s__p : Option Addr} {s__c : Nat} {b_ : Nat} (h_s_ : Rd G 2 s__p s__c (s_.map enc_api_Span)) (hc : Ctx G (.box b_ [.func (.func 123) #[] #[]] 130 :: Lf) w) {res : Int} (hF : slices_IndexFunc_Lapi_Span_api_Span N s_ = some res) : Calls Try.prog 124 #[.slice s__p s_.length s__c, .func (.func 99) #[] #[.pointer (some ⟨b_, 0, none⟩)]] w (fun e w => e = .returned (.int .i64 res) ∧ Ctx G (.box b_ [.func (.func 123) #[] #[]] 130 :: Lf) w) := by
  unfold slices_IndexFunc_Lapi_Span_api_Span at hF
  refine fnIn (args := [.slice s__p s_.length s__c, .func (.func 99) #[] #[.pointer (some ⟨b_, 0, none⟩)]]) Try.func124 rfl Try.ntmps124 rfl fun a hf => ?_
  refine wp_seq_k fun K1 h1 => ?_
  refine cReg ?_
  refine stP hf rfl rfl rfl (pA rfl) fun a hf => ?_
  refine cNil ?_
  refine h1 _ _ ?_
  refine wp_seq_k fun K2 h2 => ?_
  refine wp_seq_k fun K3 h3 => ?_
  refine cReg ?_
  refine stP hf rfl rfl rfl (pM rfl) fun a hf => ?_
  refine stP hf rfl rfl rfl (pLenS Try.underlying25 rfl) fun a hf => ?_
  refine stP hf rfl rfl rfl (pM rfl) fun a hf => ?_
  refine cNil ?_
  refine h3 _ _ ?_
  refine wp_block ?_
  obtain ⟨x4, hx4, hF⟩ := bnd_some hF
  let S4 : Int → Act → World → Prop := (fun (zz : Int) a w => Has 19 a [(0, .slice s__p s_.length s__c), (1, .func (.func 99) #[] #[.pointer (some ⟨b_, 0, none⟩)]), (7, .int .i64 ((s_.length : Nat) : Int)), (8, .int .i64 zz)] ∧ Ctx G (.box b_ [.func (.func 123) #[] #[]] 130 :: Lf) w)
  have hr4 : ∀ (zz : Int) a w, x4 = .go zz → S4 zz a w → K2 a w := by
    rintro x a w rfl ⟨hf, hc⟩
    replace hF := exK_go hF
    refine h2 _ _ ?_
    refine wp_seq_k fun K5 h5 => ?_
    refine cReg ?_
    refine stP hf rfl rfl rfl (pA rfl) fun a hf => ?_
    refine cNil ?_
    refine h5 _ _ ?_
    refine wp_ret ?_
    obtain rfl := Option.some.inj hF
    exact fnOut1 (by simp) rfl Try.results124 hf hc (show look _ 4 = _ from rfl) ⟨rfl, hc⟩
  have ho4 : ∀ r, x4 = .out r → r = res := by
    rintro r rfl
    exact Option.some.inj hF
  refine cLoop N (loopW (S := S4) (x := x4) ?_ N 0 _ _ ⟨hf.keep ⟨rfl, rfl, rfl, rfl, trivial⟩, hc⟩ hx4)
  clear hF hf hc
  rintro x st4 a w KB4 ⟨hf, hc⟩ hF hfin4 hK4
  unfold slices_IndexFunc_Lapi_Span_api_Span_b4 at hF
  refine wp_seq_k fun K6 h6 => ?_
  refine cReg ?_
  refine stP hf rfl rfl rfl (pLt rfl rfl) fun a hf => ?_
  refine cNil ?_
  refine h6 _ _ ?_
  refine wp_seq_k fun K7 h7 => ?_
  refine cCond (b := (decide (x < ((s_.length : Nat) : Int)))) hf rfl (fun hb => ?_) (fun hb => ?_)
  · replace hF := condT hb hF
    clear hb
    refine wp_skip ?_
    refine h7 _ _ ?_
    refine wp_seq_k fun K8 h8 => ?_
    refine wp_block ?_
    refine wp_seq_k fun K9 h9 => ?_
    refine cReg ?_
    refine stP hf rfl rfl rfl (pM rfl) fun a hf => ?_
    refine stP hf rfl rfl rfl (pA rfl) fun a hf => ?_
    refine cNil ?_
    refine h9 _ _ ?_
    refine wp_seq_k fun K10 h10 => ?_
    refine cReg ?_
    refine stP hf rfl rfl rfl (pM rfl) fun a hf => ?_
    refine stP hf rfl rfl rfl (pM rfl) fun a hf => ?_
    refine stP hf rfl rfl rfl (pM rfl) fun a hf => ?_
    obtain ⟨e_1, he_1, hF⟩ := bnd_some hF
    obtain ⟨b_1, o, qa, qp⟩ := h_s_.atm he_1
    refine stP hf rfl rfl rfl (pIA Try.underlying25 sz_30 rfl rfl qa) fun a hf => ?_
    refine stE hf hc rfl rfl rfl (eLdN (vs := [.int .i64 e_1.Lo, .int .i64 e_1.Hi]) ag_30 rfl rfl (cells_pc qp (n := 2) (o' := 0) rfl)) fun a w hf hc => ?_
    refine stE hf hc rfl rfl rfl (eC (v := .bool (daily_every_api_Span_1 e_1)) (vs := [.agg #[.int .i64 e_1.Lo, .int .i64 e_1.Hi]]) (caps := [.pointer (some ⟨b_, 0, none⟩)]) en_99 rfl rfl rfl rfl (fun w hc => (daily_every_api_Span_1_ok e_1 (hc.pick k0) rfl).mono fun e w h => ⟨h.1, (h.2.unpick k0)⟩)) fun a w hf hc => ?_
    refine cNil ?_
    refine h10 _ _ ?_
    refine cCond (b := (daily_every_api_Span_1 e_1)) hf rfl (fun hb => ?_) (fun hb => ?_)
    · replace hF := condT hb hF
      clear hb
      refine wp_seq_k fun K11 h11 => ?_
      refine cReg ?_
      refine stP hf rfl rfl rfl (pM rfl) fun a hf => ?_
      refine stP hf rfl rfl rfl (pA rfl) fun a hf => ?_
      refine cNil ?_
      refine h11 _ _ ?_
      refine wp_ret ?_
      refine xBlkR ?_
      refine xThenR ?_
      refine xThenR ?_
      have he := Option.some.inj hF
      rw [← he] at hfin4
      replace hF := ho4 _ hfin4
      refine xBlkR ?_
      refine xThenR ?_
      obtain rfl := hF
      exact fnOut1 (by simp) rfl Try.results124 hf hc (show look _ 4 = _ from rfl) ⟨rfl, hc⟩
    · replace hF := condF hb hF
      clear hb
      refine wp_skip ?_
      refine h8 _ _ ?_
      refine cReg ?_
      refine stP hf rfl rfl rfl (pAdd rfl rfl) fun a hf => ?_
      refine stP hf rfl rfl rfl (pM rfl) fun a hf => ?_
      refine cNil ?_
      exact hK4 (W (x + 1)) _ _ (Option.some.inj hF).symm ⟨hf.keep ⟨rfl, rfl, rfl, rfl, trivial⟩, hc⟩
  · replace hF := condF hb hF
    clear hb
    refine wp_exit ?_
    refine xThen ?_
    refine xThen ?_
    have he := Option.some.inj hF
    rw [← he] at hfin4
    refine cHit ?_
    exact hr4 _ _ _ hfin4 ⟨hf.keep ⟨rfl, rfl, rfl, rfl, trivial⟩, hc⟩

def slices_ContainsFunc_Lapi_Span_api_Span (N : Nat) (s_ : List api_Span) : Option (Bool) :=
  Option.bind (slices_IndexFunc_Lapi_Span_api_Span N s_) fun r =>
  some (decide (0 ≤ r))
theorem slices_ContainsFunc_Lapi_Span_api_Span_ok {N : Nat} {G : Pers} {Lf : List Ent} {w : World} (s_ : List api_Span) {s__p : Option Addr} {s__c : Nat} {b_ : Nat} (h_s_ : Rd G 2 s__p s__c (s_.map enc_api_Span)) (hc : Ctx G (.box b_ [.func (.func 123) #[] #[]] 130 :: Lf) w) {res : Bool} (hF : slices_ContainsFunc_Lapi_Span_api_Span N s_ = some res) : Calls Try.prog 98 #[.slice s__p s_.length s__c, .func (.func 99) #[] #[.pointer (some ⟨b_, 0, none⟩)]] w (fun e w => e = .returned (.bool res) ∧ Ctx G (.box b_ [.func (.func 123) #[] #[]] 130 :: Lf) w) := by
  unfold slices_ContainsFunc_Lapi_Span_api_Span at hF
  refine fnIn (args := [.slice s__p s_.length s__c, .func (.func 99) #[] #[.pointer (some ⟨b_, 0, none⟩)]]) Try.func98 rfl Try.ntmps98 rfl fun a hf => ?_
  refine wp_seq_k fun K1 h1 => ?_
  refine cReg ?_
  refine stP hf rfl rfl rfl (pA rfl) fun a hf => ?_
  refine cNil ?_
  refine h1 _ _ ?_
  refine wp_seq_k fun K2 h2 => ?_
  refine cReg ?_
  refine stP hf rfl rfl rfl (pM rfl) fun a hf => ?_
  refine stP hf rfl rfl rfl (pM rfl) fun a hf => ?_
  obtain ⟨r, hr, hF⟩ := bnd_some hF
  refine stE hf hc rfl rfl rfl (eC (v := .int .i64 r) (vs := [.slice s__p s_.length s__c, .func (.func 99) #[] #[.pointer (some ⟨b_, 0, none⟩)]]) (caps := []) en_124 rfl rfl rfl rfl (fun w hc => (slices_IndexFunc_Lapi_Span_api_Span_ok s_ h_s_ (hc.pick k0) hr).mono fun e w h => ⟨h.1, (h.2.unpick k0)⟩)) fun a w hf hc => ?_
  refine stP hf rfl rfl rfl (pGe rfl rfl) fun a hf => ?_
  refine stP hf rfl rfl rfl (pA rfl) fun a hf => ?_
  refine cNil ?_
  refine h2 _ _ ?_
  refine wp_ret ?_
  obtain rfl := Option.some.inj hF
  exact fnOut1 (by simp) rfl Try.results98 hf hc (show look _ 4 = _ from rfl) ⟨rfl, hc⟩

def daily_every_api_Span (N : Nat) (l : List api_Span) : Option (Bool) :=
  Option.bind (slices_ContainsFunc_Lapi_Span_api_Span N l) fun r =>
  some (!r)
theorem daily_every_api_Span_ok {N : Nat} {G : Pers} {Lf : List Ent} {w : World} (l : List api_Span) {l_p : Option Addr} {l_c : Nat} (h_l : Rd G 2 l_p l_c (l.map enc_api_Span)) (hc : Ctx G (Lf) w) {res : Bool} (hF : daily_every_api_Span N l = some res) : Calls Try.prog 66 #[.slice l_p l.length l_c, .func (.func 123) #[] #[]] w (fun e w => e = .returned (.bool res) ∧ Ctx G (Lf) w) := by
  unfold daily_every_api_Span at hF
  refine fnIn (args := [.slice l_p l.length l_c, .func (.func 123) #[] #[]]) Try.func66 rfl Try.ntmps66 rfl fun a hf => ?_
  refine wp_seq_k fun K1 h1 => ?_
  refine cReg ?_
  refine stBx (cs := [.func (.func 123) #[] #[]]) hf hc rfl rfl rfl rfl fun b_1 a w hf hc => ?_
  refine stP hf rfl rfl rfl (pA rfl) fun a hf => ?_
  refine cNil ?_
  refine h1 _ _ ?_
  refine wp_seq_k fun K2 h2 => ?_
  refine cReg ?_
  refine stP hf rfl rfl rfl (pM rfl) fun a hf => ?_
  refine stP hf rfl rfl rfl (pMF (us := [.pointer (some ⟨b_1, 0, none⟩)]) rfl rfl) fun a hf => ?_
  obtain ⟨r, hr, hF⟩ := bnd_some hF
  refine stE hf hc rfl rfl rfl (eC (v := .bool r) (vs := [.slice l_p l.length l_c, .func (.func 99) #[] #[.pointer (some ⟨b_1, 0, none⟩)]]) (caps := []) en_98 rfl rfl rfl rfl (fun w hc => (slices_ContainsFunc_Lapi_Span_api_Span_ok l h_l (hc.pick k0) hr).mono fun e w h => ⟨h.1, (h.2.unpick k0)⟩)) fun a w hf hc => ?_
  refine stP hf rfl rfl rfl (pNot rfl) fun a hf => ?_
  refine stP hf rfl rfl rfl (pA rfl) fun a hf => ?_
  refine cNil ?_
  refine h2 _ _ ?_
  refine wp_ret ?_
  obtain rfl := Option.some.inj hF
  replace hc := hc.drop k0
  exact fnOut1 (by simp) rfl Try.results66 hf hc (show look _ 4 = _ from rfl) ⟨rfl, hc⟩

def daily_opened_r13 (N : Nat) (r : daily_Record) (x_1 : List api_Span) (x_2 : List api_Span) (xv : Int) (xv_1 : Int) : Option (Rs ((List api_Span))) :=
  Option.bind (getI x_2 xv) fun e_1 =>
  Option.bind (getI x_2 xv) fun e_2 =>
  Option.bind (daily_opened_1 N xv_1 (W (e_1.Lo - r.Fall)) (W (e_2.Hi + r.Rise)) r.Rise r.Fall r.Days x_2) fun r_2 =>
  Option.bind (sameL r_2 x_1) fun _ =>
  some (.go r_2)
def daily_opened_r18 (N : Nat) (r : daily_Record) (x_2 : List api_Span) (x_3 : List api_Span) (xv_2 : Int) (xv_3 : Int) : Option (Rs ((List api_Span))) :=
  Option.bind (getI x_3 xv_2) fun e_3 =>
  Option.bind (getI x_3 xv_2) fun e_4 =>
  Option.bind (daily_opened_1 N xv_3 (W (e_3.Lo - r.Rise)) (W (e_4.Hi + r.Fall)) r.Rise r.Fall r.Days x_3) fun r_4 =>
  Option.bind (sameL r_4 x_2) fun _ =>
  some (.go r_4)
def daily_opened_b9 (N : Nat) (r : daily_Record) (x : Int) (x_1 : List api_Span) : Option (Step (Int × (List api_Span)) ((Bool × Int) ⊕ (Int × Int × (List api_Span) × Bool × Int))) :=
  cond (decide (x < ((r.Days.length : Nat) : Int)))
  (Option.bind (getI r.Days x) fun e_5 =>
  Option.bind (daily_Value_span N e_5) fun r_6 =>
  Option.bind (room ((x_1 ++ [r_6])).length) fun un =>
  some (.cont (W (x + 1), (x_1 ++ [r_6]))))
  (some (.brk (x, x_1)))
def daily_opened (N : Nat) (r : daily_Record) : Option ((Bool × Int) ⊕ (Int × Int × (List api_Span) × Bool × Int)) :=
  Option.bind (daily_Check N r) fun r_0 =>
  cond (r_0 != 0)
  (some (.inl (false, r_0)))
  (Option.bind (loopO (fun s9 => daily_opened_b9 N r s9.1 s9.2) N (0, ([] : List api_Span))) fun x9 =>
  exK x9 (fun s9 => Option.bind (daily_work_pairs N (⟨r, s9.2⟩ : daily_work) false) fun r_1 =>
  Option.bind (daily_work_pairs_1 N r.Rise r.Fall r.Days r_1 (rY (fun (zz : (List api_Span)) (ix_ : (Int × Int)) => daily_opened_r13 N r s9.2 zz ix_.1 ix_.2)) (.go s9.2)) fun x13 =>
  rsK x13 (fun zz13 => Option.bind (daily_work_pairs N (⟨r, zz13⟩ : daily_work) true) fun r_3 =>
  Option.bind (daily_work_pairs_1 N r.Rise r.Fall r.Days r_3 (rY (fun (zz : (List api_Span)) (ix_ : (Int × Int)) => daily_opened_r18 N r zz13 zz ix_.1 ix_.2)) (.go zz13)) fun x18 =>
  rsK x18 (fun zz18 => Option.bind (daily_every_api_Span N zz18) fun r_5 =>
  some (.inr (r.Rise, r.Fall, zz18, r_5, 0))) (fun zz18 => none)) (fun zz13 => none)) some)
theorem daily_opened_ok {N : Nat} {G : Pers} {Lf : List Ent} {w : World} (r : daily_Record) {r_Days_p : Option Addr} {r_Days_c : Nat} (h_r_Days : Rd G 3 r_Days_p r_Days_c (r.Days.map enc_daily_Value)) (hc : Ctx G (Lf) w) {res : (Bool × Int) ⊕ (Int × Int × (List api_Span) × Bool × Int)} (hF : daily_opened N r = some res) : Calls Try.prog 95 #[.agg #[.int .i64 r.Rise, .int .i64 r.Fall, .slice r_Days_p r.Days.length r_Days_c]] w (fun e w => sumK (fun rr => e = .returned (.tuple #[.pointer none, .bool rr.1, .int .i64 rr.2]) ∧ Ctx G (Lf) w) (fun rr => ∃ (b'1 : Nat) (p'1 : Option Addr) (c'1 : Nat), e = .returned (.tuple #[.pointer (some ⟨b'1, 0, none⟩), .bool rr.2.2.2.1, .int .i64 rr.2.2.2.2]) ∧ Ctx G (.row p'1 c'1 (rr.2.2.1.map enc_api_Span) 30 2 :: .box b'1 [.int .i64 rr.1, .int .i64 rr.2.1, .slice r_Days_p r.Days.length r_Days_c, .slice p'1 rr.2.2.1.length c'1] 120 :: Lf) w) res) := by
  unfold daily_opened at hF
  refine fnInM (args := [.agg #[.int .i64 r.Rise, .int .i64 r.Fall, .slice r_Days_p r.Days.length r_Days_c]]) Try.func95 rfl Try.ntmps95 rfl fun a hf => ?_
  refine wp_seq_k fun K1 h1 => ?_
  refine cReg ?_
  refine stBx (cs := [.int .i64 r.Rise, .int .i64 r.Fall, .slice r_Days_p r.Days.length r_Days_c]) hf hc rfl rfl rfl rfl fun b_1 a w hf hc => ?_
  refine stP hf rfl rfl rfl (pA rfl) fun a hf => ?_
  refine stP hf rfl rfl rfl (pA rfl) fun a hf => ?_
  refine stP hf rfl rfl rfl (pA rfl) fun a hf => ?_
  refine cNil ?_
  refine h1 _ _ ?_
  refine wp_seq_k fun K2 h2 => ?_
  refine wp_seq_k fun K3 h3 => ?_
  refine cReg ?_
  refine stE hf hc rfl rfl rfl (eLdN (vs := [.int .i64 r.Rise, .int .i64 r.Fall, .slice r_Days_p r.Days.length r_Days_c]) ag_24 rfl rfl (cells_box (n := 3) m0 rfl)) fun a w hf hc => ?_
  obtain ⟨r_0, hr_0, hF⟩ := bnd_some hF
  refine stE hf hc rfl rfl rfl (eC (v := .int .i64 r_0) (vs := [.agg #[.int .i64 r.Rise, .int .i64 r.Fall, .slice r_Days_p r.Days.length r_Days_c]]) (caps := []) en_34 rfl rfl rfl rfl (fun w hc => daily_Check_ok r h_r_Days hc hr_0)) fun a w hf hc => ?_
  refine stP hf rfl rfl rfl (pA rfl) fun a hf => ?_
  refine cNil ?_
  refine h3 _ _ ?_
  refine wp_seq_k fun K4 h4 => ?_
  refine cReg ?_
  refine stP hf rfl rfl rfl (pM rfl) fun a hf => ?_
  refine stP hf rfl rfl rfl (pNe rfl rfl) fun a hf => ?_
  refine cNil ?_
  refine h4 _ _ ?_
  refine cCond (b := (r_0 != 0)) hf rfl (fun hb => ?_) (fun hb => ?_)
  · replace hF := condT hb hF
    clear hb
    refine wp_seq_k fun K5 h5 => ?_
    refine cReg ?_
    refine stP hf rfl rfl rfl (pM rfl) fun a hf => ?_
    refine stP hf rfl rfl rfl (pA rfl) fun a hf => ?_
    refine stP hf rfl rfl rfl (pA rfl) fun a hf => ?_
    refine stP hf rfl rfl rfl (pA rfl) fun a hf => ?_
    refine cNil ?_
    refine h5 _ _ ?_
    refine wp_ret ?_
    refine xThenR ?_
    obtain rfl := Option.some.inj hF
    replace hc := hc.drop k0
    refine outM hf ?_
    exact outM3 Try.results95 hf hc (show look _ 2 = _ from rfl) (show look _ 3 = _ from rfl) (show look _ 4 = _ from rfl) ⟨rfl, hc⟩
  · replace hF := condF hb hF
    clear hb
    refine wp_skip ?_
    refine h2 _ _ ?_
    refine wp_seq_k fun K6 h6 => ?_
    refine cReg ?_
    refine stE hf hc rfl rfl rfl (eLdN (vs := [.int .i64 r.Rise, .int .i64 r.Fall, .slice r_Days_p r.Days.length r_Days_c]) ag_24 rfl rfl (cells_box (n := 3) m0 rfl)) fun a w hf hc => ?_
    refine stP hf rfl rfl rfl (pBuildS (cells := [.int .i64 r.Rise, .int .i64 r.Fall, .slice r_Days_p r.Days.length r_Days_c, .slice none 0 0]) bt_120 rfl rfl) fun a hf => ?_
    refine stBx (cs := [.int .i64 r.Rise, .int .i64 r.Fall, .slice r_Days_p r.Days.length r_Days_c, .slice none 0 0]) hf hc rfl rfl rfl rfl fun b_2 a w hf hc => ?_
    refine stAl (cs := [.pointer none]) hf hc rfl rfl zr_116 rfl fun b_3 a w hf hc => ?_
    refine stSt (vs := [.pointer (some ⟨b_2, 0, none⟩)]) hf hc rfl rfl rfl rfl sz_116 rfl rfl u0 fun w hc => ?_
    refine cNil ?_
    refine h6 _ _ ?_
    refine wp_seq_k fun K7 h7 => ?_
    refine wp_seq_k fun K8 h8 => ?_
    refine cReg ?_
    refine stP hf rfl rfl rfl (pFA fa_24_2 rfl) fun a hf => ?_
    refine stE hf hc rfl rfl rfl (eLd1 sc_22 rfl (cell_box m2 rfl)) fun a w hf hc => ?_
    refine stP hf rfl rfl rfl (pLenS Try.underlying22 rfl) fun a hf => ?_
    refine stP hf rfl rfl rfl (pM rfl) fun a hf => ?_
    refine cNil ?_
    refine h8 _ _ ?_
    refine wp_block ?_
    obtain ⟨x9, hx9, hF⟩ := bnd_some hF
    let S9 : (Int × (List api_Span)) → Act → World → Prop := (fun (zz : Int × (List api_Span)) a w => ∃ (p_1 : Option Addr) (c_1 : Nat), Has 118 a [(6, .pointer (some ⟨b_3, 0, none⟩)), (23, .slice r_Days_p r.Days.length r_Days_c), (24, .int .i64 ((r.Days.length : Nat) : Int)), (25, .int .i64 zz.1)] ∧ Ctx G (.row p_1 c_1 (zz.2.map enc_api_Span) 30 2 :: .box b_3 [.pointer (some ⟨b_2, 0, none⟩)] 116 :: .box b_2 [.int .i64 r.Rise, .int .i64 r.Fall, .slice r_Days_p r.Days.length r_Days_c, .slice p_1 zz.2.length c_1] 120 :: Lf) w)
    have hr9 : ∀ (zz : Int × (List api_Span)) a w, x9 = .go zz → S9 zz a w → K7 a w := by
      rintro ⟨x, x_1⟩ a w rfl ⟨p_1, c_1, hf, hc⟩
      replace hF := exK_go hF
      refine h7 _ _ ?_
      refine wp_seq_k fun K10 h10 => ?_
      refine cReg ?_
      refine stP hf rfl rfl rfl (pMF (us := [.pointer (some ⟨b_3, 0, none⟩)]) rfl rfl) fun a hf => ?_
      refine stAl (cs := [.nilFunc]) hf hc rfl rfl zr_182 rfl fun b_4 a w hf hc => ?_
      refine stSt (vs := [.func (.func 121) #[] #[.pointer (some ⟨b_3, 0, none⟩)]]) hf hc rfl rfl rfl rfl sz_182 rfl rfl u0 fun w hc => ?_
      refine cNil ?_
      refine h10 _ _ ?_
      refine wp_seq_k fun K11 h11 => ?_
      refine wp_seq_k fun K12 h12 => ?_
      refine cReg ?_
      refine stE hf hc rfl rfl rfl (eLd1 sc_116 rfl (cell_box m2 rfl)) fun a w hf hc => ?_
      obtain ⟨r_1, hr_1, hF⟩ := bnd_some hF
      obtain ⟨G1, hle1, hrd1, hc, hth1⟩ := lend hc k1
      refine stC (vs := [.pointer (some ⟨b_2, 0, none⟩), .bool false]) (caps := []) hf rfl rfl rfl en_122 rfl rfl rfl rfl (daily_work_pairs_ok (⟨r, x_1⟩ : daily_work) false (h_r_Days.mono hle1) hrd1 (hc.pick k2) hr_1) ?_
      rintro _ w ⟨b_5, b_6, rfl, hc⟩
      refine ⟨_, rfl, fun a hf => ?_⟩
      replace hc := hth1 _ _ hc
      refine cNil ?_
      refine h12 _ _ ?_
      obtain ⟨x13, hx13, hF⟩ := bnd_some hF
      replace hc := hc.pick k0
      replace hc := hc.pick k3
      replace hc := hc.pick k3
      replace hc := hc.pick k3
      refine cRangeC (C := [.box b_5 [.pointer (some ⟨b_2, 0, none⟩)] 116, .box b_6 [.bool r_1] 4]) (C2 := [.box b_5 [.pointer (some ⟨b_2, 0, none⟩)] 116, .box b_6 [.bool r_1] 4]) (L0 := [.box b_2 [.int .i64 r.Rise, .int .i64 r.Fall, .slice r_Days_p r.Days.length r_Days_c, .slice p_1 x_1.length c_1] 120, .row p_1 c_1 (x_1.map enc_api_Span) 30 2, .box b_4 [.func (.func 121) #[] #[.pointer (some ⟨b_3, 0, none⟩)]] 182, .box b_3 [.pointer (some ⟨b_2, 0, none⟩)] 116]) (Lf := Lf) (encs := fun x : (Int × Int) => [.int .i64 x.1, .int .i64 x.2]) (fun (zz : (List api_Span)) L => zz.length = x_1.length ∧ L = [.box b_2 [.int .i64 r.Rise, .int .i64 r.Fall, .slice r_Days_p r.Days.length r_Days_c, .slice p_1 zz.length c_1] 120, .row p_1 c_1 (zz.map enc_api_Span) 30 2, .box b_4 [.func (.func 121) #[] #[.pointer (some ⟨b_3, 0, none⟩)]] 182, .box b_3 [.pointer (some ⟨b_2, 0, none⟩)] 116]) (fun (zz : (List api_Span)) (ix_ : (Int × Int)) => daily_opened_r13 N r x_1 zz ix_.1 ix_.2) x_1 x13 hf hc rfl en_142 (fun _ => rfl) rfl ⟨rfl, rfl⟩ ?_ ?_ ?_ ?_
      · intro lq mq J L Lx w hy hQ hJ hc
        have hje_ : ∀ (zz : (List api_Span)) (M : List Ent), (fun (zz : (List api_Span)) L => zz.length = x_1.length ∧ L = [.box b_2 [.int .i64 r.Rise, .int .i64 r.Fall, .slice r_Days_p r.Days.length r_Days_c, .slice p_1 zz.length c_1] 120, .row p_1 c_1 (zz.map enc_api_Span) 30 2, .box b_4 [.func (.func 121) #[] #[.pointer (some ⟨b_3, 0, none⟩)]] 182, .box b_3 [.pointer (some ⟨b_2, 0, none⟩)] 116]) zz M → ∃ A B, M = A ++ (.box b_2 [.int .i64 r.Rise, .int .i64 r.Fall, .slice r_Days_p r.Days.length r_Days_c, .slice p_1 x_1.length c_1] 120 :: B) := by
          rintro x_2 _ ⟨hl, rfl⟩
          try rw [show _ = _ from hl]
          exact ⟨[], _, rfl⟩
        exact daily_work_pairs_1_ok r.Rise r.Fall r.Days r_1 h_r_Days J _ hy _ hJ (hQ _ hje_) hc hx13
      · clear hF hf hc
        rintro lq mq x_2 ⟨xv, xv_1⟩ oq _ Lr Lb a w hK0 ⟨hl, rfl⟩ hF hf hc hK
        replace hf : Has 118 a [(6, .pointer (some ⟨b_3, 0, none⟩)), (9, .pointer (some ⟨b_4, 0, none⟩)), (44, .int .i64 xv), (45, .int .i64 xv_1)] := hf.keep ⟨rfl, rfl, rfl, rfl, trivial⟩
        replace hc : Ctx G (.box b_2 [.int .i64 r.Rise, .int .i64 r.Fall, .slice r_Days_p r.Days.length r_Days_c, .slice p_1 x_2.length c_1] 120 :: .row p_1 c_1 (x_2.map enc_api_Span) 30 2 :: .box b_4 [.func (.func 121) #[] #[.pointer (some ⟨b_3, 0, none⟩)]] 182 :: .box b_3 [.pointer (some ⟨b_2, 0, none⟩)] 116 :: Lr) w := hc
        replace hF : daily_opened_r13 N r x_1 x_2 xv xv_1 = some oq := hF
        unfold daily_opened_r13 at hF
        refine rSeq fun K14 h14 => ?_
        refine rReg (fun _ _ h => h) rfl ?_
        refine stP hf rfl rfl rfl (pA rfl) fun a hf => ?_
        refine cNil ?_
        refine h14 _ _ ?_
        refine rReg (fun _ _ h => h) rfl ?_
        refine stP hf rfl rfl rfl (pA rfl) fun a hf => ?_
        refine cNil ?_
        refine hK _ _ [.box b_2 [.int .i64 r.Rise, .int .i64 r.Fall, .slice r_Days_p r.Days.length r_Days_c, .slice p_1 x_2.length c_1] 120, .row p_1 c_1 (x_2.map enc_api_Span) 30 2, .box b_4 [.func (.func 121) #[] #[.pointer (some ⟨b_3, 0, none⟩)]] 182, .box b_3 [.pointer (some ⟨b_2, 0, none⟩)] 116] hc fun w hc => ?_
        replace hc : Ctx G (.box b_2 [.int .i64 r.Rise, .int .i64 r.Fall, .slice r_Days_p r.Days.length r_Days_c, .slice p_1 x_2.length c_1] 120 :: .row p_1 c_1 (x_2.map enc_api_Span) 30 2 :: .box b_4 [.func (.func 121) #[] #[.pointer (some ⟨b_3, 0, none⟩)]] 182 :: .box b_3 [.pointer (some ⟨b_2, 0, none⟩)] 116 :: Lb) w := hc
        refine rThenK fun K15 h15 => ?_
        refine rBlock ?_
        obtain ⟨e_1, he_1, hF⟩ := bnd_some hF
        obtain ⟨g, rfl, qa, qr⟩ := row_atm hc m1 he_1
        obtain ⟨e_2, he_2, hF⟩ := bnd_some hF
        obtain ⟨qa_1, qr_1⟩ := row_atk hc m1 he_2
        obtain ⟨r_2, hr_2, hF⟩ := bnd_some hF
        refine rRegE (fun _ _ h => h) rfl (fun θ => (⟨none, none, 6, .pointer (some ⟨b_3, 0, none⟩)⟩ :: ⟨none, none, 9, .pointer (some ⟨b_4, 0, none⟩)⟩ :: ⟨none, none, 10, .int .i64 xv⟩ :: ⟨none, none, 11, .int .i64 xv_1⟩ :: ⟨some 0, none, 46, .func (.func 121) #[] #[.pointer (some ⟨b_3, 0, none⟩)]⟩ :: ⟨some 1, none, 47, .int .i64 xv_1⟩ :: ⟨some 2, none, 48, .pointer (some ⟨b_2, 0, none⟩)⟩ :: ⟨some 3, none, 49, .pointer (some ⟨b_2, 0, none⟩)⟩ :: ⟨some 4, none, 50, .pointer (some ⟨b_2, 3, none⟩)⟩ :: ⟨some 5, none, 51, .slice (some ⟨g, 0, none⟩) x_2.length c_1⟩ :: ⟨some 6, none, 52, .int .i64 xv⟩ :: ⟨some 7, none, 53, .pointer (some ⟨g, xv.toNat * 2, none⟩)⟩ :: ⟨some 8, none, 54, .pointer (some ⟨g, xv.toNat * 2 + 0, none⟩)⟩ :: ⟨some 9, none, 55, .int .i64 e_1.Lo⟩ :: ⟨some 10, none, 56, .pointer (some ⟨b_2, 0, none⟩)⟩ :: ⟨some 11, none, 57, .pointer (some ⟨b_2, 0, none⟩)⟩ :: ⟨some 12, none, 58, .pointer (some ⟨b_2, 0, none⟩)⟩ :: ⟨some 13, none, 59, .pointer (some ⟨b_2, 1, none⟩)⟩ :: ⟨some 14, none, 60, .int .i64 r.Fall⟩ :: ⟨some 15, none, 61, .int .i64 (W (e_1.Lo - r.Fall))⟩ :: ⟨some 16, none, 62, .pointer (some ⟨b_2, 0, none⟩)⟩ :: ⟨some 17, none, 63, .pointer (some ⟨b_2, 0, none⟩)⟩ :: ⟨some 18, none, 64, .pointer (some ⟨b_2, 3, none⟩)⟩ :: ⟨some 19, none, 65, .slice (some ⟨g, 0, none⟩) x_2.length c_1⟩ :: ⟨some 20, none, 66, .int .i64 xv⟩ :: ⟨some 21, none, 67, .pointer (some ⟨g, xv.toNat * 2, none⟩)⟩ :: ⟨some 22, none, 68, .pointer (some ⟨g, xv.toNat * 2 + 1, none⟩)⟩ :: ⟨some 23, none, 69, .int .i64 e_2.Hi⟩ :: ⟨some 24, none, 70, .pointer (some ⟨b_2, 0, none⟩)⟩ :: ⟨some 25, none, 71, .pointer (some ⟨b_2, 0, none⟩)⟩ :: ⟨some 26, none, 72, .pointer (some ⟨b_2, 0, none⟩)⟩ :: ⟨some 27, none, 73, .pointer (some ⟨b_2, 0, none⟩)⟩ :: ⟨some 28, none, 74, .int .i64 r.Rise⟩ :: ⟨some 29, none, 75, .int .i64 (W (e_2.Hi + r.Rise))⟩ :: ⟨some 30, none, 76, .tuple #[]⟩ :: [])) (fun E θ => (bif E 30 then .box b_2 [.int .i64 r.Rise, .int .i64 r.Fall, .slice r_Days_p r.Days.length r_Days_c, .slice (some ⟨g, 0, none⟩) r_2.length c_1] 120 else .box b_2 [.int .i64 r.Rise, .int .i64 r.Fall, .slice r_Days_p r.Days.length r_Days_c, .slice (some ⟨g, 0, none⟩) x_2.length c_1] 120) :: (bif E 30 then .row (some ⟨g, 0, none⟩) c_1 (r_2.map enc_api_Span) 30 2 else .row (some ⟨g, 0, none⟩) c_1 (x_2.map enc_api_Span) 30 2) :: .box b_4 [.func (.func 121) #[] #[.pointer (some ⟨b_3, 0, none⟩)]] 182 :: .box b_3 [.pointer (some ⟨b_2, 0, none⟩)] 116 :: Lb) [(7, 5), (8, 7), (9, 8), (15, 9), (30, 15), (15, 14), (21, 19), (22, 21), (23, 22), (29, 23), (30, 29), (29, 28)] (fun a w => Has 118 a [(6, .pointer (some ⟨b_3, 0, none⟩)), (9, .pointer (some ⟨b_4, 0, none⟩))] ∧ Ctx G (.box b_2 [.int .i64 r.Rise, .int .i64 r.Fall, .slice r_Days_p r.Days.length r_Days_c, .slice (some ⟨g, 0, none⟩) r_2.length c_1] 120 :: .row (some ⟨g, 0, none⟩) c_1 (r_2.map enc_api_Span) 30 2 :: .box b_4 [.func (.func 121) #[] #[.pointer (some ⟨b_3, 0, none⟩)]] 182 :: .box b_3 [.pointer (some ⟨b_2, 0, none⟩)] 116 :: Lb) w) follows_mx (by kernel_rfl) (by kernel_rfl) (HasE.of hf ⟨rfl, rfl, rfl, rfl, trivial, trivial, trivial, trivial, trivial, trivial, trivial, trivial, trivial, trivial, trivial, trivial, trivial, trivial, trivial, trivial, trivial, trivial, trivial, trivial, trivial, trivial, trivial, trivial, trivial, trivial, trivial, trivial, trivial, trivial, trivial, trivial⟩) hc ⟨?_, ?_, ?_, ?_, ?_, ?_, ?_, ?_, ?_, ?_, ?_, ?_, ?_, ?_, ?_, ?_, ?_, ?_, ?_, ?_, ?_, ?_, ?_, ?_, ?_, ?_, ?_, ?_, ?_, ?_, ?_, trivial⟩ ?_ ?_
        · intro E θ a w hD hi hp he hc
          have hf := he.h0
          replace hf := hf.more he 1 rfl onT
          refine stE hf hc rfl rfl rfl (eLd1 sc_182 rfl (cell_box m2 rfl)) fun a w hf hc => ?_
          refine cNil ?_
          refine xThenN ?_
          intro ds u hau
          refine ⟨θ, he.put0 hi hau hf rfl 4 rfl rfl, ?_⟩
          exact hc
        · intro E θ a w hD hi hp he hc
          have hf := he.h0
          replace hf := hf.more he 3 rfl onT
          refine stP hf rfl rfl rfl (pM rfl) fun a hf => ?_
          refine cNil ?_
          refine xThenN ?_
          intro ds u hau
          refine ⟨θ, he.put0 hi hau hf rfl 5 rfl rfl, ?_⟩
          exact hc
        · intro E θ a w hD hi hp he hc
          have hf := he.h0
          replace hf := hf.more he 0 rfl onT
          refine stE hf hc rfl rfl rfl (eLd1 sc_116 rfl (cell_box m3 rfl)) fun a w hf hc => ?_
          refine cNil ?_
          refine xThenN ?_
          intro ds u hau
          refine ⟨θ, he.put0 hi hau hf rfl 6 rfl rfl, ?_⟩
          exact hc
        · intro E θ a w hD hi hp he hc
          have e2 := hp.of (k := 2) rfl
          have hf := he.h0
          replace hf := hf.more he 6 rfl (onP e2)
          refine stP hf rfl rfl rfl (pNC rfl) fun a hf => ?_
          refine cNil ?_
          refine xThenN ?_
          intro ds u hau
          refine ⟨θ, he.put0 hi hau hf rfl 7 rfl rfl, ?_⟩
          exact hc
        · intro E θ a w hD hi hp he hc
          have e3 := hp.of (k := 3) rfl
          have hf := he.h0
          replace hf := hf.more he 7 rfl (onP e3)
          refine stP hf rfl rfl rfl (pFA fa_120_1 rfl) fun a hf => ?_
          refine cNil ?_
          refine xThenN ?_
          intro ds u hau
          refine ⟨θ, he.put0 hi hau hf rfl 8 rfl rfl, ?_⟩
          exact hc
        · intro E θ a w hD hi hp he hc
          have e4 := hp.of (k := 4) rfl
          have e7 := hD.f 0 rfl hi
          have e8 := hD.f 1 rfl e7
          have e9 := hD.f 2 rfl e8
          have e15 := hD.f 3 rfl e9
          have e30 := hD.f 4 rfl e15
          try dsimp only at hc
          rw [e30] at hc
          have hf := he.h0
          replace hf := hf.more he 8 rfl (onP e4)
          refine stE hf hc rfl rfl rfl (eLd1 sc_25 rfl (cell_box m0 rfl)) fun a w hf hc => ?_
          refine cNil ?_
          refine xThenN ?_
          intro ds u hau
          refine ⟨θ, he.put0 hi hau hf rfl 9 rfl rfl, ?_⟩
          try dsimp only
          rw [updE_fls 5 e30 rfl]
          exact hc
        · intro E θ a w hD hi hp he hc
          have hf := he.h0
          replace hf := hf.more he 2 rfl onT
          refine stP hf rfl rfl rfl (pM rfl) fun a hf => ?_
          refine cNil ?_
          refine xThenN ?_
          intro ds u hau
          refine ⟨θ, he.put0 hi hau hf rfl 10 rfl rfl, ?_⟩
          exact hc
        · intro E θ a w hD hi hp he hc
          have e5 := hp.of (k := 5) rfl
          have e6 := hp.of (k := 6) rfl
          have e8 := hD.f 1 rfl hi
          have e9 := hD.f 2 rfl e8
          have e15 := hD.f 3 rfl e9
          have e30 := hD.f 4 rfl e15
          try dsimp only at hc
          rw [e30] at hc
          have hf := he.h0
          replace hf := hf.more he 9 rfl (onP e5)
          replace hf := hf.more he 10 rfl (onP e6)
          refine stP hf rfl rfl rfl (pIA Try.underlying25 sz_30 rfl rfl qa) fun a hf => ?_
          refine cNil ?_
          refine xThenN ?_
          intro ds u hau
          refine ⟨θ, he.put0 hi hau hf rfl 11 rfl rfl, ?_⟩
          try dsimp only
          rw [updE_fls 7 e30 rfl]
          exact hc
        · intro E θ a w hD hi hp he hc
          have e7 := hp.of (k := 7) rfl
          have hf := he.h0
          replace hf := hf.more he 11 rfl (onP e7)
          refine stP hf rfl rfl rfl (pFA fa_30_0 rfl) fun a hf => ?_
          refine cNil ?_
          refine xThenN ?_
          intro ds u hau
          refine ⟨θ, he.put0 hi hau hf rfl 12 rfl rfl, ?_⟩
          exact hc
        · intro E θ a w hD hi hp he hc
          have e8 := hp.of (k := 8) rfl
          have e15 := hD.f 3 rfl hi
          have e30 := hD.f 4 rfl e15
          try dsimp only at hc
          rw [e30] at hc
          have hf := he.h0
          replace hf := hf.more he 12 rfl (onP e8)
          refine stE hf hc rfl rfl rfl (eLd1 sc_3 rfl (cell_row (sz := 2) (i := xv.toNat) (j := 0) m1 qr rfl)) fun a w hf hc => ?_
          refine cNil ?_
          refine xThenN ?_
          intro ds u hau
          refine ⟨θ, he.put0 hi hau hf rfl 13 rfl rfl, ?_⟩
          try dsimp only
          rw [updE_fls 9 e30 rfl]
          exact hc
        · intro E θ a w hD hi hp he hc
          have hf := he.h0
          replace hf := hf.more he 0 rfl onT
          refine stE hf hc rfl rfl rfl (eLd1 sc_116 rfl (cell_box m3 rfl)) fun a w hf hc => ?_
          refine cNil ?_
          refine xThenN ?_
          intro ds u hau
          refine ⟨θ, he.put0 hi hau hf rfl 14 rfl rfl, ?_⟩
          exact hc
        · intro E θ a w hD hi hp he hc
          have e10 := hp.of (k := 10) rfl
          have hf := he.h0
          replace hf := hf.more he 14 rfl (onP e10)
          refine stP hf rfl rfl rfl (pNC rfl) fun a hf => ?_
          refine cNil ?_
          refine xThenN ?_
          intro ds u hau
          refine ⟨θ, he.put0 hi hau hf rfl 15 rfl rfl, ?_⟩
          exact hc
        · intro E θ a w hD hi hp he hc
          have e11 := hp.of (k := 11) rfl
          have hf := he.h0
          replace hf := hf.more he 15 rfl (onP e11)
          refine stP hf rfl rfl rfl (pFA fa_120_0 rfl) fun a hf => ?_
          refine cNil ?_
          refine xThenN ?_
          intro ds u hau
          refine ⟨θ, he.put0 hi hau hf rfl 16 rfl rfl, ?_⟩
          exact hc
        · intro E θ a w hD hi hp he hc
          have e12 := hp.of (k := 12) rfl
          have hf := he.h0
          replace hf := hf.more he 16 rfl (onP e12)
          refine stP hf rfl rfl rfl (pFA fa_24_1 rfl) fun a hf => ?_
          refine cNil ?_
          refine xThenN ?_
          intro ds u hau
          refine ⟨θ, he.put0 hi hau hf rfl 17 rfl rfl, ?_⟩
          exact hc
        · intro E θ a w hD hi hp he hc
          have e13 := hp.of (k := 13) rfl
          have e15 := hD.f 5 rfl hi
          have e30 := hD.f 4 rfl e15
          try dsimp only at hc
          rw [e30] at hc
          have hf := he.h0
          replace hf := hf.more he 17 rfl (onP e13)
          refine stE hf hc rfl rfl rfl (eLd1 sc_3 rfl (cell_box m0 rfl)) fun a w hf hc => ?_
          refine cNil ?_
          refine xThenN ?_
          intro ds u hau
          refine ⟨θ, he.put0 hi hau hf rfl 18 rfl rfl, ?_⟩
          try dsimp only
          rw [updE_fls 14 e30 rfl]
          exact hc
        · intro E θ a w hD hi hp he hc
          have e9 := hp.of (k := 9) rfl
          have e14 := hp.of (k := 14) rfl
          have hf := he.h0
          replace hf := hf.more he 13 rfl (onP e9)
          replace hf := hf.more he 18 rfl (onP e14)
          refine stP hf rfl rfl rfl (pSub rfl rfl) fun a hf => ?_
          refine cNil ?_
          refine xThenN ?_
          intro ds u hau
          refine ⟨θ, he.put0 hi hau hf rfl 19 rfl rfl, ?_⟩
          exact hc
        · intro E θ a w hD hi hp he hc
          have hf := he.h0
          replace hf := hf.more he 0 rfl onT
          refine stE hf hc rfl rfl rfl (eLd1 sc_116 rfl (cell_box m3 rfl)) fun a w hf hc => ?_
          refine cNil ?_
          refine xThenN ?_
          intro ds u hau
          refine ⟨θ, he.put0 hi hau hf rfl 20 rfl rfl, ?_⟩
          exact hc
        · intro E θ a w hD hi hp he hc
          have e16 := hp.of (k := 16) rfl
          have hf := he.h0
          replace hf := hf.more he 20 rfl (onP e16)
          refine stP hf rfl rfl rfl (pNC rfl) fun a hf => ?_
          refine cNil ?_
          refine xThenN ?_
          intro ds u hau
          refine ⟨θ, he.put0 hi hau hf rfl 21 rfl rfl, ?_⟩
          exact hc
        · intro E θ a w hD hi hp he hc
          have e17 := hp.of (k := 17) rfl
          have hf := he.h0
          replace hf := hf.more he 21 rfl (onP e17)
          refine stP hf rfl rfl rfl (pFA fa_120_1 rfl) fun a hf => ?_
          refine cNil ?_
          refine xThenN ?_
          intro ds u hau
          refine ⟨θ, he.put0 hi hau hf rfl 22 rfl rfl, ?_⟩
          exact hc
        · intro E θ a w hD hi hp he hc
          have e18 := hp.of (k := 18) rfl
          have e21 := hD.f 6 rfl hi
          have e22 := hD.f 7 rfl e21
          have e23 := hD.f 8 rfl e22
          have e29 := hD.f 9 rfl e23
          have e30 := hD.f 10 rfl e29
          try dsimp only at hc
          rw [e30] at hc
          have hf := he.h0
          replace hf := hf.more he 22 rfl (onP e18)
          refine stE hf hc rfl rfl rfl (eLd1 sc_25 rfl (cell_box m0 rfl)) fun a w hf hc => ?_
          refine cNil ?_
          refine xThenN ?_
          intro ds u hau
          refine ⟨θ, he.put0 hi hau hf rfl 23 rfl rfl, ?_⟩
          try dsimp only
          rw [updE_fls 19 e30 rfl]
          exact hc
        · intro E θ a w hD hi hp he hc
          have hf := he.h0
          replace hf := hf.more he 2 rfl onT
          refine stP hf rfl rfl rfl (pM rfl) fun a hf => ?_
          refine cNil ?_
          refine xThenN ?_
          intro ds u hau
          refine ⟨θ, he.put0 hi hau hf rfl 24 rfl rfl, ?_⟩
          exact hc
        · intro E θ a w hD hi hp he hc
          have e19 := hp.of (k := 19) rfl
          have e20 := hp.of (k := 20) rfl
          have e22 := hD.f 7 rfl hi
          have e23 := hD.f 8 rfl e22
          have e29 := hD.f 9 rfl e23
          have e30 := hD.f 10 rfl e29
          try dsimp only at hc
          rw [e30] at hc
          have hf := he.h0
          replace hf := hf.more he 23 rfl (onP e19)
          replace hf := hf.more he 24 rfl (onP e20)
          refine stP hf rfl rfl rfl (pIA Try.underlying25 sz_30 rfl rfl qa_1) fun a hf => ?_
          refine cNil ?_
          refine xThenN ?_
          intro ds u hau
          refine ⟨θ, he.put0 hi hau hf rfl 25 rfl rfl, ?_⟩
          try dsimp only
          rw [updE_fls 21 e30 rfl]
          exact hc
        · intro E θ a w hD hi hp he hc
          have e21 := hp.of (k := 21) rfl
          have hf := he.h0
          replace hf := hf.more he 25 rfl (onP e21)
          refine stP hf rfl rfl rfl (pFA fa_30_1 rfl) fun a hf => ?_
          refine cNil ?_
          refine xThenN ?_
          intro ds u hau
          refine ⟨θ, he.put0 hi hau hf rfl 26 rfl rfl, ?_⟩
          exact hc
        · intro E θ a w hD hi hp he hc
          have e22 := hp.of (k := 22) rfl
          have e29 := hD.f 9 rfl hi
          have e30 := hD.f 10 rfl e29
          try dsimp only at hc
          rw [e30] at hc
          have hf := he.h0
          replace hf := hf.more he 26 rfl (onP e22)
          refine stE hf hc rfl rfl rfl (eLd1 sc_3 rfl (cell_row (sz := 2) (i := xv.toNat) (j := 1) m1 qr_1 rfl)) fun a w hf hc => ?_
          refine cNil ?_
          refine xThenN ?_
          intro ds u hau
          refine ⟨θ, he.put0 hi hau hf rfl 27 rfl rfl, ?_⟩
          try dsimp only
          rw [updE_fls 23 e30 rfl]
          exact hc
        · intro E θ a w hD hi hp he hc
          have hf := he.h0
          replace hf := hf.more he 0 rfl onT
          refine stE hf hc rfl rfl rfl (eLd1 sc_116 rfl (cell_box m3 rfl)) fun a w hf hc => ?_
          refine cNil ?_
          refine xThenN ?_
          intro ds u hau
          refine ⟨θ, he.put0 hi hau hf rfl 28 rfl rfl, ?_⟩
          exact hc
        · intro E θ a w hD hi hp he hc
          have e24 := hp.of (k := 24) rfl
          have hf := he.h0
          replace hf := hf.more he 28 rfl (onP e24)
          refine stP hf rfl rfl rfl (pNC rfl) fun a hf => ?_
          refine cNil ?_
          refine xThenN ?_
          intro ds u hau
          refine ⟨θ, he.put0 hi hau hf rfl 29 rfl rfl, ?_⟩
          exact hc
        · intro E θ a w hD hi hp he hc
          have e25 := hp.of (k := 25) rfl
          have hf := he.h0
          replace hf := hf.more he 29 rfl (onP e25)
          refine stP hf rfl rfl rfl (pFA fa_120_0 rfl) fun a hf => ?_
          refine cNil ?_
          refine xThenN ?_
          intro ds u hau
          refine ⟨θ, he.put0 hi hau hf rfl 30 rfl rfl, ?_⟩
          exact hc
        · intro E θ a w hD hi hp he hc
          have e26 := hp.of (k := 26) rfl
          have hf := he.h0
          replace hf := hf.more he 30 rfl (onP e26)
          refine stP hf rfl rfl rfl (pFA fa_24_0 rfl) fun a hf => ?_
          refine cNil ?_
          refine xThenN ?_
          intro ds u hau
          refine ⟨θ, he.put0 hi hau hf rfl 31 rfl rfl, ?_⟩
          exact hc
        · intro E θ a w hD hi hp he hc
          have e27 := hp.of (k := 27) rfl
          have e29 := hD.f 11 rfl hi
          have e30 := hD.f 10 rfl e29
          try dsimp only at hc
          rw [e30] at hc
          have hf := he.h0
          replace hf := hf.more he 31 rfl (onP e27)
          refine stE hf hc rfl rfl rfl (eLd1 sc_3 rfl (cell_box m0 rfl)) fun a w hf hc => ?_
          refine cNil ?_
          refine xThenN ?_
          intro ds u hau
          refine ⟨θ, he.put0 hi hau hf rfl 32 rfl rfl, ?_⟩
          try dsimp only
          rw [updE_fls 28 e30 rfl]
          exact hc
        · intro E θ a w hD hi hp he hc
          have e23 := hp.of (k := 23) rfl
          have e28 := hp.of (k := 28) rfl
          have hf := he.h0
          replace hf := hf.more he 27 rfl (onP e23)
          replace hf := hf.more he 32 rfl (onP e28)
          refine stP hf rfl rfl rfl (pAdd rfl rfl) fun a hf => ?_
          refine cNil ?_
          refine xThenN ?_
          intro ds u hau
          refine ⟨θ, he.put0 hi hau hf rfl 33 rfl rfl, ?_⟩
          exact hc
        · intro E θ a w hD hi hp he hc
          have e0 := hp.of (k := 0) rfl
          have e1 := hp.of (k := 1) rfl
          have e15 := hp.of (k := 15) rfl
          have e29 := hp.of (k := 29) rfl
          try dsimp only at hc
          rw [hi] at hc
          have hf := he.h0
          replace hf := hf.more he 4 rfl (onP e0)
          replace hf := hf.more he 5 rfl (onP e1)
          replace hf := hf.more he 19 rfl (onP e15)
          replace hf := hf.more he 33 rfl (onP e29)
          refine stC (vs := [.int .i64 xv_1, .int .i64 (W (e_1.Lo - r.Fall)), .int .i64 (W (e_2.Hi + r.Rise))]) (caps := [.pointer (some ⟨b_3, 0, none⟩)]) hf rfl rfl rfl en_121 rfl rfl rfl rfl (daily_opened_1_ok xv_1 (W (e_1.Lo - r.Fall)) (W (e_2.Hi + r.Rise)) r.Rise r.Fall r.Days x_2 h_r_Days (((hc.pick k1).pick k1).pick k3) hr_2) ?_
          rintro _ w ⟨rfl, hl_1, hc⟩
          refine ⟨_, rfl, fun a hf => ?_⟩
          try rw [← hl_1] at hf
          try rw [← hl_1] at hc
          refine cNil ?_
          refine xThenN ?_
          intro ds u hau
          replace hc := hc.pick k0
          replace hc := hc.pick k3
          replace hc := hc.pick k3
          replace hc := hc.pick k3
          refine ⟨θ, he.put0 hi hau hf rfl 34 rfl rfl, ?_⟩
          try dsimp only
          rw [updE_self E 30]
          exact hc
        · intro E θ a w hall he hc
          have hf := he.h0
          have e30 := hall 30 rfl
          replace hf := hf.more he 1 rfl (onT)
          replace hf := hf.more he 0 rfl (onT)
          try dsimp only at hc
          rw [e30] at hc
          exact ⟨hf.keep ⟨rfl, rfl, trivial⟩, hc⟩
        rintro a w ⟨hf, hc⟩
        refine h15 _ _ ?_
        obtain ⟨_, hl_2, hF⟩ := same_len hF
        exact ⟨r_2, _, (Option.some.inj hF).symm, ⟨hl_2, rfl⟩, hc⟩
      · rintro D_1 x_2 _ a w hsF ⟨hl, rfl⟩ hf hc
        replace hf : Has ⟨118, markL (D_1 :: [])⟩ a [(6, .pointer (some ⟨b_3, 0, none⟩)), (9, .pointer (some ⟨b_4, 0, none⟩))] := hf.keep ⟨rfl, rfl, trivial⟩
        replace hc : Ctx G (.box b_5 [.pointer (some ⟨b_2, 0, none⟩)] 116 :: .box b_6 [.bool r_1] 4 :: .box b_2 [.int .i64 r.Rise, .int .i64 r.Fall, .slice r_Days_p r.Days.length r_Days_c, .slice p_1 x_2.length c_1] 120 :: .row p_1 c_1 (x_2.map enc_api_Span) 30 2 :: .box b_4 [.func (.func 121) #[] #[.pointer (some ⟨b_3, 0, none⟩)]] 182 :: .box b_3 [.pointer (some ⟨b_2, 0, none⟩)] 116 :: (raws (D_1 :: []) ++ Lf)) w := rawsIn (C := [.box b_5 [.pointer (some ⟨b_2, 0, none⟩)] 116, .box b_6 [.bool r_1] 4]) (L := [.box b_2 [.int .i64 r.Rise, .int .i64 r.Fall, .slice r_Days_p r.Days.length r_Days_c, .slice p_1 x_2.length c_1] 120, .row p_1 c_1 (x_2.map enc_api_Span) 30 2, .box b_4 [.func (.func 121) #[] #[.pointer (some ⟨b_3, 0, none⟩)]] 182, .box b_3 [.pointer (some ⟨b_2, 0, none⟩)] 116]) hc
        replace hF : (Option.bind (daily_work_pairs N (⟨r, x_2⟩ : daily_work) true) fun r_3 => Option.bind (daily_work_pairs_1 N r.Rise r.Fall r.Days r_3 (rY (fun (zz : (List api_Span)) (ix_ : (Int × Int)) => daily_opened_r18 N r x_2 zz ix_.1 ix_.2)) (.go x_2)) fun x18 => rsK x18 (fun zz18 => Option.bind (daily_every_api_Span N zz18) fun r_5 => some (.inr (r.Rise, r.Fall, zz18, r_5, 0))) (fun zz18 => none)) = some res := by rcases hsF with rfl | rfl <;> exact hF
        refine h11 _ _ ?_
        refine wp_seq_k fun K16 h16 => ?_
        refine wp_seq_k fun K17 h17 => ?_
        refine cReg ?_
        refine stE hf hc rfl rfl rfl (eLd1 sc_116 rfl (cell_box m5 rfl)) fun a w hf hc => ?_
        obtain ⟨r_3, hr_3, hF⟩ := bnd_some hF
        obtain ⟨G1, hle1, hrd1, hc, hth1⟩ := lend hc k3
        refine stC (vs := [.pointer (some ⟨b_2, 0, none⟩), .bool true]) (caps := []) hf rfl rfl rfl en_122 rfl rfl rfl rfl (daily_work_pairs_ok (⟨r, x_2⟩ : daily_work) true (h_r_Days.mono hle1) hrd1 (hc.pick k2) hr_3) ?_
        rintro _ w ⟨b_7, b_8, rfl, hc⟩
        refine ⟨_, rfl, fun a hf => ?_⟩
        replace hc := hth1 _ _ hc
        refine cNil ?_
        refine h17 _ _ ?_
        obtain ⟨x18, hx18, hF⟩ := bnd_some hF
        replace hc := hc.drop k5
        replace hc := hc.drop k4
        replace hc := hc.pick k0
        replace hc := hc.pick k3
        replace hc := hc.pick k3
        replace hc := hc.pick k3
        refine cRangeC (C := [.box b_7 [.pointer (some ⟨b_2, 0, none⟩)] 116, .box b_8 [.bool r_3] 4]) (C2 := [.box b_7 [.pointer (some ⟨b_2, 0, none⟩)] 116, .box b_8 [.bool r_3] 4]) (L0 := [.box b_2 [.int .i64 r.Rise, .int .i64 r.Fall, .slice r_Days_p r.Days.length r_Days_c, .slice p_1 x_2.length c_1] 120, .row p_1 c_1 (x_2.map enc_api_Span) 30 2, .box b_4 [.func (.func 121) #[] #[.pointer (some ⟨b_3, 0, none⟩)]] 182, .box b_3 [.pointer (some ⟨b_2, 0, none⟩)] 116]) (Lf := (raws (D_1 :: []) ++ Lf)) (encs := fun x : (Int × Int) => [.int .i64 x.1, .int .i64 x.2]) (fun (zz : (List api_Span)) L => zz.length = x_2.length ∧ L = [.box b_2 [.int .i64 r.Rise, .int .i64 r.Fall, .slice r_Days_p r.Days.length r_Days_c, .slice p_1 zz.length c_1] 120, .row p_1 c_1 (zz.map enc_api_Span) 30 2, .box b_4 [.func (.func 121) #[] #[.pointer (some ⟨b_3, 0, none⟩)]] 182, .box b_3 [.pointer (some ⟨b_2, 0, none⟩)] 116]) (fun (zz : (List api_Span)) (ix_ : (Int × Int)) => daily_opened_r18 N r x_2 zz ix_.1 ix_.2) x_2 x18 hf hc rfl en_142 (fun _ => rfl) rfl ⟨rfl, rfl⟩ ?_ ?_ ?_ ?_
        · intro lq mq J L Lx w hy hQ hJ hc
          have hje_ : ∀ (zz : (List api_Span)) (M : List Ent), (fun (zz : (List api_Span)) L => zz.length = x_2.length ∧ L = [.box b_2 [.int .i64 r.Rise, .int .i64 r.Fall, .slice r_Days_p r.Days.length r_Days_c, .slice p_1 zz.length c_1] 120, .row p_1 c_1 (zz.map enc_api_Span) 30 2, .box b_4 [.func (.func 121) #[] #[.pointer (some ⟨b_3, 0, none⟩)]] 182, .box b_3 [.pointer (some ⟨b_2, 0, none⟩)] 116]) zz M → ∃ A B, M = A ++ (.box b_2 [.int .i64 r.Rise, .int .i64 r.Fall, .slice r_Days_p r.Days.length r_Days_c, .slice p_1 x_2.length c_1] 120 :: B) := by
            rintro x_3 _ ⟨hl_3, rfl⟩
            try rw [show _ = _ from hl_3]
            exact ⟨[], _, rfl⟩
          exact daily_work_pairs_1_ok r.Rise r.Fall r.Days r_3 h_r_Days J _ hy _ hJ (hQ _ hje_) hc hx18
        · clear hF hf hc
          rintro lq mq x_3 ⟨xv_2, xv_3⟩ oq _ Lr Lb a w hK0 ⟨hl_3, rfl⟩ hF hf hc hK
          replace hf : Has 118 a [(6, .pointer (some ⟨b_3, 0, none⟩)), (9, .pointer (some ⟨b_4, 0, none⟩)), (79, .int .i64 xv_2), (80, .int .i64 xv_3)] := hf.keep ⟨rfl, rfl, rfl, rfl, trivial⟩
          replace hc : Ctx G (.box b_2 [.int .i64 r.Rise, .int .i64 r.Fall, .slice r_Days_p r.Days.length r_Days_c, .slice p_1 x_3.length c_1] 120 :: .row p_1 c_1 (x_3.map enc_api_Span) 30 2 :: .box b_4 [.func (.func 121) #[] #[.pointer (some ⟨b_3, 0, none⟩)]] 182 :: .box b_3 [.pointer (some ⟨b_2, 0, none⟩)] 116 :: Lr) w := hc
          replace hF : daily_opened_r18 N r x_2 x_3 xv_2 xv_3 = some oq := hF
          unfold daily_opened_r18 at hF
          refine rSeq fun K19 h19 => ?_
          refine rReg (fun _ _ h => h) rfl ?_
          refine stP hf rfl rfl rfl (pA rfl) fun a hf => ?_
          refine cNil ?_
          refine h19 _ _ ?_
          refine rReg (fun _ _ h => h) rfl ?_
          refine stP hf rfl rfl rfl (pA rfl) fun a hf => ?_
          refine cNil ?_
          refine hK _ _ [.box b_2 [.int .i64 r.Rise, .int .i64 r.Fall, .slice r_Days_p r.Days.length r_Days_c, .slice p_1 x_3.length c_1] 120, .row p_1 c_1 (x_3.map enc_api_Span) 30 2, .box b_4 [.func (.func 121) #[] #[.pointer (some ⟨b_3, 0, none⟩)]] 182, .box b_3 [.pointer (some ⟨b_2, 0, none⟩)] 116] hc fun w hc => ?_
          replace hc : Ctx G (.box b_2 [.int .i64 r.Rise, .int .i64 r.Fall, .slice r_Days_p r.Days.length r_Days_c, .slice p_1 x_3.length c_1] 120 :: .row p_1 c_1 (x_3.map enc_api_Span) 30 2 :: .box b_4 [.func (.func 121) #[] #[.pointer (some ⟨b_3, 0, none⟩)]] 182 :: .box b_3 [.pointer (some ⟨b_2, 0, none⟩)] 116 :: Lb) w := hc
          refine rThenK fun K20 h20 => ?_
          refine rBlock ?_
          obtain ⟨e_3, he_3, hF⟩ := bnd_some hF
          obtain ⟨g_1, rfl, qa_2, qr_2⟩ := row_atm hc m1 he_3
          obtain ⟨e_4, he_4, hF⟩ := bnd_some hF
          obtain ⟨qa_3, qr_3⟩ := row_atk hc m1 he_4
          obtain ⟨r_4, hr_4, hF⟩ := bnd_some hF
          refine rRegE (fun _ _ h => h) rfl (fun θ => (⟨none, none, 6, .pointer (some ⟨b_3, 0, none⟩)⟩ :: ⟨none, none, 9, .pointer (some ⟨b_4, 0, none⟩)⟩ :: ⟨none, none, 12, .int .i64 xv_2⟩ :: ⟨none, none, 13, .int .i64 xv_3⟩ :: ⟨some 0, none, 81, .func (.func 121) #[] #[.pointer (some ⟨b_3, 0, none⟩)]⟩ :: ⟨some 1, none, 82, .int .i64 xv_3⟩ :: ⟨some 2, none, 83, .pointer (some ⟨b_2, 0, none⟩)⟩ :: ⟨some 3, none, 84, .pointer (some ⟨b_2, 0, none⟩)⟩ :: ⟨some 4, none, 85, .pointer (some ⟨b_2, 3, none⟩)⟩ :: ⟨some 5, none, 86, .slice (some ⟨g_1, 0, none⟩) x_3.length c_1⟩ :: ⟨some 6, none, 87, .int .i64 xv_2⟩ :: ⟨some 7, none, 88, .pointer (some ⟨g_1, xv_2.toNat * 2, none⟩)⟩ :: ⟨some 8, none, 89, .pointer (some ⟨g_1, xv_2.toNat * 2 + 0, none⟩)⟩ :: ⟨some 9, none, 90, .int .i64 e_3.Lo⟩ :: ⟨some 10, none, 91, .pointer (some ⟨b_2, 0, none⟩)⟩ :: ⟨some 11, none, 92, .pointer (some ⟨b_2, 0, none⟩)⟩ :: ⟨some 12, none, 93, .pointer (some ⟨b_2, 0, none⟩)⟩ :: ⟨some 13, none, 94, .pointer (some ⟨b_2, 0, none⟩)⟩ :: ⟨some 14, none, 95, .int .i64 r.Rise⟩ :: ⟨some 15, none, 96, .int .i64 (W (e_3.Lo - r.Rise))⟩ :: ⟨some 16, none, 97, .pointer (some ⟨b_2, 0, none⟩)⟩ :: ⟨some 17, none, 98, .pointer (some ⟨b_2, 0, none⟩)⟩ :: ⟨some 18, none, 99, .pointer (some ⟨b_2, 3, none⟩)⟩ :: ⟨some 19, none, 100, .slice (some ⟨g_1, 0, none⟩) x_3.length c_1⟩ :: ⟨some 20, none, 101, .int .i64 xv_2⟩ :: ⟨some 21, none, 102, .pointer (some ⟨g_1, xv_2.toNat * 2, none⟩)⟩ :: ⟨some 22, none, 103, .pointer (some ⟨g_1, xv_2.toNat * 2 + 1, none⟩)⟩ :: ⟨some 23, none, 104, .int .i64 e_4.Hi⟩ :: ⟨some 24, none, 105, .pointer (some ⟨b_2, 0, none⟩)⟩ :: ⟨some 25, none, 106, .pointer (some ⟨b_2, 0, none⟩)⟩ :: ⟨some 26, none, 107, .pointer (some ⟨b_2, 0, none⟩)⟩ :: ⟨some 27, none, 108, .pointer (some ⟨b_2, 1, none⟩)⟩ :: ⟨some 28, none, 109, .int .i64 r.Fall⟩ :: ⟨some 29, none, 110, .int .i64 (W (e_4.Hi + r.Fall))⟩ :: ⟨some 30, none, 111, .tuple #[]⟩ :: [])) (fun E θ => (bif E 30 then .box b_2 [.int .i64 r.Rise, .int .i64 r.Fall, .slice r_Days_p r.Days.length r_Days_c, .slice (some ⟨g_1, 0, none⟩) r_4.length c_1] 120 else .box b_2 [.int .i64 r.Rise, .int .i64 r.Fall, .slice r_Days_p r.Days.length r_Days_c, .slice (some ⟨g_1, 0, none⟩) x_3.length c_1] 120) :: (bif E 30 then .row (some ⟨g_1, 0, none⟩) c_1 (r_4.map enc_api_Span) 30 2 else .row (some ⟨g_1, 0, none⟩) c_1 (x_3.map enc_api_Span) 30 2) :: .box b_4 [.func (.func 121) #[] #[.pointer (some ⟨b_3, 0, none⟩)]] 182 :: .box b_3 [.pointer (some ⟨b_2, 0, none⟩)] 116 :: Lb) [(7, 5), (8, 7), (9, 8), (15, 9), (30, 15), (15, 14), (21, 19), (22, 21), (23, 22), (29, 23), (30, 29), (29, 28)] (fun a w => Has 118 a [(6, .pointer (some ⟨b_3, 0, none⟩)), (9, .pointer (some ⟨b_4, 0, none⟩))] ∧ Ctx G (.box b_2 [.int .i64 r.Rise, .int .i64 r.Fall, .slice r_Days_p r.Days.length r_Days_c, .slice (some ⟨g_1, 0, none⟩) r_4.length c_1] 120 :: .row (some ⟨g_1, 0, none⟩) c_1 (r_4.map enc_api_Span) 30 2 :: .box b_4 [.func (.func 121) #[] #[.pointer (some ⟨b_3, 0, none⟩)]] 182 :: .box b_3 [.pointer (some ⟨b_2, 0, none⟩)] 116 :: Lb) w) follows_mx (by kernel_rfl) (by kernel_rfl) (HasE.of hf ⟨rfl, rfl, rfl, rfl, trivial, trivial, trivial, trivial, trivial, trivial, trivial, trivial, trivial, trivial, trivial, trivial, trivial, trivial, trivial, trivial, trivial, trivial, trivial, trivial, trivial, trivial, trivial, trivial, trivial, trivial, trivial, trivial, trivial, trivial, trivial, trivial⟩) hc ⟨?_, ?_, ?_, ?_, ?_, ?_, ?_, ?_, ?_, ?_, ?_, ?_, ?_, ?_, ?_, ?_, ?_, ?_, ?_, ?_, ?_, ?_, ?_, ?_, ?_, ?_, ?_, ?_, ?_, ?_, ?_, trivial⟩ ?_ ?_
          · intro E θ a w hD hi hp he hc
            have hf := he.h0
            replace hf := hf.more he 1 rfl onT
            refine stE hf hc rfl rfl rfl (eLd1 sc_182 rfl (cell_box m2 rfl)) fun a w hf hc => ?_
            refine cNil ?_
            refine xThenN ?_
            intro ds u hau
            refine ⟨θ, he.put0 hi hau hf rfl 4 rfl rfl, ?_⟩
            exact hc
          · intro E θ a w hD hi hp he hc
            have hf := he.h0
            replace hf := hf.more he 3 rfl onT
            refine stP hf rfl rfl rfl (pM rfl) fun a hf => ?_
            refine cNil ?_
            refine xThenN ?_
            intro ds u hau
            refine ⟨θ, he.put0 hi hau hf rfl 5 rfl rfl, ?_⟩
            exact hc
          · intro E θ a w hD hi hp he hc
            have hf := he.h0
            replace hf := hf.more he 0 rfl onT
            refine stE hf hc rfl rfl rfl (eLd1 sc_116 rfl (cell_box m3 rfl)) fun a w hf hc => ?_
            refine cNil ?_
            refine xThenN ?_
            intro ds u hau
            refine ⟨θ, he.put0 hi hau hf rfl 6 rfl rfl, ?_⟩
            exact hc
          · intro E θ a w hD hi hp he hc
            have e2 := hp.of (k := 2) rfl
            have hf := he.h0
            replace hf := hf.more he 6 rfl (onP e2)
            refine stP hf rfl rfl rfl (pNC rfl) fun a hf => ?_
            refine cNil ?_
            refine xThenN ?_
            intro ds u hau
            refine ⟨θ, he.put0 hi hau hf rfl 7 rfl rfl, ?_⟩
            exact hc
          · intro E θ a w hD hi hp he hc
            have e3 := hp.of (k := 3) rfl
            have hf := he.h0
            replace hf := hf.more he 7 rfl (onP e3)
            refine stP hf rfl rfl rfl (pFA fa_120_1 rfl) fun a hf => ?_
            refine cNil ?_
            refine xThenN ?_
            intro ds u hau
            refine ⟨θ, he.put0 hi hau hf rfl 8 rfl rfl, ?_⟩
            exact hc
          · intro E θ a w hD hi hp he hc
            have e4 := hp.of (k := 4) rfl
            have e7 := hD.f 0 rfl hi
            have e8 := hD.f 1 rfl e7
            have e9 := hD.f 2 rfl e8
            have e15 := hD.f 3 rfl e9
            have e30 := hD.f 4 rfl e15
            try dsimp only at hc
            rw [e30] at hc
            have hf := he.h0
            replace hf := hf.more he 8 rfl (onP e4)
            refine stE hf hc rfl rfl rfl (eLd1 sc_25 rfl (cell_box m0 rfl)) fun a w hf hc => ?_
            refine cNil ?_
            refine xThenN ?_
            intro ds u hau
            refine ⟨θ, he.put0 hi hau hf rfl 9 rfl rfl, ?_⟩
            try dsimp only
            rw [updE_fls 5 e30 rfl]
            exact hc
          · intro E θ a w hD hi hp he hc
            have hf := he.h0
            replace hf := hf.more he 2 rfl onT
            refine stP hf rfl rfl rfl (pM rfl) fun a hf => ?_
            refine cNil ?_
            refine xThenN ?_
            intro ds u hau
            refine ⟨θ, he.put0 hi hau hf rfl 10 rfl rfl, ?_⟩
            exact hc
          · intro E θ a w hD hi hp he hc
            have e5 := hp.of (k := 5) rfl
            have e6 := hp.of (k := 6) rfl
            have e8 := hD.f 1 rfl hi
            have e9 := hD.f 2 rfl e8
            have e15 := hD.f 3 rfl e9
            have e30 := hD.f 4 rfl e15
            try dsimp only at hc
            rw [e30] at hc
            have hf := he.h0
            replace hf := hf.more he 9 rfl (onP e5)
            replace hf := hf.more he 10 rfl (onP e6)
            refine stP hf rfl rfl rfl (pIA Try.underlying25 sz_30 rfl rfl qa_2) fun a hf => ?_
            refine cNil ?_
            refine xThenN ?_
            intro ds u hau
            refine ⟨θ, he.put0 hi hau hf rfl 11 rfl rfl, ?_⟩
            try dsimp only
            rw [updE_fls 7 e30 rfl]
            exact hc
          · intro E θ a w hD hi hp he hc
            have e7 := hp.of (k := 7) rfl
            have hf := he.h0
            replace hf := hf.more he 11 rfl (onP e7)
            refine stP hf rfl rfl rfl (pFA fa_30_0 rfl) fun a hf => ?_
            refine cNil ?_
            refine xThenN ?_
            intro ds u hau
            refine ⟨θ, he.put0 hi hau hf rfl 12 rfl rfl, ?_⟩
            exact hc
          · intro E θ a w hD hi hp he hc
            have e8 := hp.of (k := 8) rfl
            have e15 := hD.f 3 rfl hi
            have e30 := hD.f 4 rfl e15
            try dsimp only at hc
            rw [e30] at hc
            have hf := he.h0
            replace hf := hf.more he 12 rfl (onP e8)
            refine stE hf hc rfl rfl rfl (eLd1 sc_3 rfl (cell_row (sz := 2) (i := xv_2.toNat) (j := 0) m1 qr_2 rfl)) fun a w hf hc => ?_
            refine cNil ?_
            refine xThenN ?_
            intro ds u hau
            refine ⟨θ, he.put0 hi hau hf rfl 13 rfl rfl, ?_⟩
            try dsimp only
            rw [updE_fls 9 e30 rfl]
            exact hc
          · intro E θ a w hD hi hp he hc
            have hf := he.h0
            replace hf := hf.more he 0 rfl onT
            refine stE hf hc rfl rfl rfl (eLd1 sc_116 rfl (cell_box m3 rfl)) fun a w hf hc => ?_
            refine cNil ?_
            refine xThenN ?_
            intro ds u hau
            refine ⟨θ, he.put0 hi hau hf rfl 14 rfl rfl, ?_⟩
            exact hc
          · intro E θ a w hD hi hp he hc
            have e10 := hp.of (k := 10) rfl
            have hf := he.h0
            replace hf := hf.more he 14 rfl (onP e10)
            refine stP hf rfl rfl rfl (pNC rfl) fun a hf => ?_
            refine cNil ?_
            refine xThenN ?_
            intro ds u hau
            refine ⟨θ, he.put0 hi hau hf rfl 15 rfl rfl, ?_⟩
            exact hc
          · intro E θ a w hD hi hp he hc
            have e11 := hp.of (k := 11) rfl
            have hf := he.h0
            replace hf := hf.more he 15 rfl (onP e11)
            refine stP hf rfl rfl rfl (pFA fa_120_0 rfl) fun a hf => ?_
            refine cNil ?_
            refine xThenN ?_
            intro ds u hau
            refine ⟨θ, he.put0 hi hau hf rfl 16 rfl rfl, ?_⟩
            exact hc
          · intro E θ a w hD hi hp he hc
            have e12 := hp.of (k := 12) rfl
            have hf := he.h0
            replace hf := hf.more he 16 rfl (onP e12)
            refine stP hf rfl rfl rfl (pFA fa_24_0 rfl) fun a hf => ?_
            refine cNil ?_
            refine xThenN ?_
            intro ds u hau
            refine ⟨θ, he.put0 hi hau hf rfl 17 rfl rfl, ?_⟩
            exact hc
          · intro E θ a w hD hi hp he hc
            have e13 := hp.of (k := 13) rfl
            have e15 := hD.f 5 rfl hi
            have e30 := hD.f 4 rfl e15
            try dsimp only at hc
            rw [e30] at hc
            have hf := he.h0
            replace hf := hf.more he 17 rfl (onP e13)
            refine stE hf hc rfl rfl rfl (eLd1 sc_3 rfl (cell_box m0 rfl)) fun a w hf hc => ?_
            refine cNil ?_
            refine xThenN ?_
            intro ds u hau
            refine ⟨θ, he.put0 hi hau hf rfl 18 rfl rfl, ?_⟩
            try dsimp only
            rw [updE_fls 14 e30 rfl]
            exact hc
          · intro E θ a w hD hi hp he hc
            have e9 := hp.of (k := 9) rfl
            have e14 := hp.of (k := 14) rfl
            have hf := he.h0
            replace hf := hf.more he 13 rfl (onP e9)
            replace hf := hf.more he 18 rfl (onP e14)
            refine stP hf rfl rfl rfl (pSub rfl rfl) fun a hf => ?_
            refine cNil ?_
            refine xThenN ?_
            intro ds u hau
            refine ⟨θ, he.put0 hi hau hf rfl 19 rfl rfl, ?_⟩
            exact hc
          · intro E θ a w hD hi hp he hc
            have hf := he.h0
            replace hf := hf.more he 0 rfl onT
            refine stE hf hc rfl rfl rfl (eLd1 sc_116 rfl (cell_box m3 rfl)) fun a w hf hc => ?_
            refine cNil ?_
            refine xThenN ?_
            intro ds u hau
            refine ⟨θ, he.put0 hi hau hf rfl 20 rfl rfl, ?_⟩
            exact hc
          · intro E θ a w hD hi hp he hc
            have e16 := hp.of (k := 16) rfl
            have hf := he.h0
            replace hf := hf.more he 20 rfl (onP e16)
            refine stP hf rfl rfl rfl (pNC rfl) fun a hf => ?_
            refine cNil ?_
            refine xThenN ?_
            intro ds u hau
            refine ⟨θ, he.put0 hi hau hf rfl 21 rfl rfl, ?_⟩
            exact hc
          · intro E θ a w hD hi hp he hc
            have e17 := hp.of (k := 17) rfl
            have hf := he.h0
            replace hf := hf.more he 21 rfl (onP e17)
            refine stP hf rfl rfl rfl (pFA fa_120_1 rfl) fun a hf => ?_
            refine cNil ?_
            refine xThenN ?_
            intro ds u hau
            refine ⟨θ, he.put0 hi hau hf rfl 22 rfl rfl, ?_⟩
            exact hc
          · intro E θ a w hD hi hp he hc
            have e18 := hp.of (k := 18) rfl
            have e21 := hD.f 6 rfl hi
            have e22 := hD.f 7 rfl e21
            have e23 := hD.f 8 rfl e22
            have e29 := hD.f 9 rfl e23
            have e30 := hD.f 10 rfl e29
            try dsimp only at hc
            rw [e30] at hc
            have hf := he.h0
            replace hf := hf.more he 22 rfl (onP e18)
            refine stE hf hc rfl rfl rfl (eLd1 sc_25 rfl (cell_box m0 rfl)) fun a w hf hc => ?_
            refine cNil ?_
            refine xThenN ?_
            intro ds u hau
            refine ⟨θ, he.put0 hi hau hf rfl 23 rfl rfl, ?_⟩
            try dsimp only
            rw [updE_fls 19 e30 rfl]
            exact hc
          · intro E θ a w hD hi hp he hc
            have hf := he.h0
            replace hf := hf.more he 2 rfl onT
            refine stP hf rfl rfl rfl (pM rfl) fun a hf => ?_
            refine cNil ?_
            refine xThenN ?_
            intro ds u hau
            refine ⟨θ, he.put0 hi hau hf rfl 24 rfl rfl, ?_⟩
            exact hc
          · intro E θ a w hD hi hp he hc
            have e19 := hp.of (k := 19) rfl
            have e20 := hp.of (k := 20) rfl
            have e22 := hD.f 7 rfl hi
            have e23 := hD.f 8 rfl e22
            have e29 := hD.f 9 rfl e23
            have e30 := hD.f 10 rfl e29
            try dsimp only at hc
            rw [e30] at hc
            have hf := he.h0
            replace hf := hf.more he 23 rfl (onP e19)
            replace hf := hf.more he 24 rfl (onP e20)
            refine stP hf rfl rfl rfl (pIA Try.underlying25 sz_30 rfl rfl qa_3) fun a hf => ?_
            refine cNil ?_
            refine xThenN ?_
            intro ds u hau
            refine ⟨θ, he.put0 hi hau hf rfl 25 rfl rfl, ?_⟩
            try dsimp only
            rw [updE_fls 21 e30 rfl]
            exact hc
          · intro E θ a w hD hi hp he hc
            have e21 := hp.of (k := 21) rfl
            have hf := he.h0
            replace hf := hf.more he 25 rfl (onP e21)
            refine stP hf rfl rfl rfl (pFA fa_30_1 rfl) fun a hf => ?_
            refine cNil ?_
            refine xThenN ?_
            intro ds u hau
            refine ⟨θ, he.put0 hi hau hf rfl 26 rfl rfl, ?_⟩
            exact hc
          · intro E θ a w hD hi hp he hc
            have e22 := hp.of (k := 22) rfl
            have e29 := hD.f 9 rfl hi
            have e30 := hD.f 10 rfl e29
            try dsimp only at hc
            rw [e30] at hc
            have hf := he.h0
            replace hf := hf.more he 26 rfl (onP e22)
            refine stE hf hc rfl rfl rfl (eLd1 sc_3 rfl (cell_row (sz := 2) (i := xv_2.toNat) (j := 1) m1 qr_3 rfl)) fun a w hf hc => ?_
            refine cNil ?_
            refine xThenN ?_
            intro ds u hau
            refine ⟨θ, he.put0 hi hau hf rfl 27 rfl rfl, ?_⟩
            try dsimp only
            rw [updE_fls 23 e30 rfl]
            exact hc
          · intro E θ a w hD hi hp he hc
            have hf := he.h0
            replace hf := hf.more he 0 rfl onT
            refine stE hf hc rfl rfl rfl (eLd1 sc_116 rfl (cell_box m3 rfl)) fun a w hf hc => ?_
            refine cNil ?_
            refine xThenN ?_
            intro ds u hau
            refine ⟨θ, he.put0 hi hau hf rfl 28 rfl rfl, ?_⟩
            exact hc
          · intro E θ a w hD hi hp he hc
            have e24 := hp.of (k := 24) rfl
            have hf := he.h0
            replace hf := hf.more he 28 rfl (onP e24)
            refine stP hf rfl rfl rfl (pNC rfl) fun a hf => ?_
            refine cNil ?_
            refine xThenN ?_
            intro ds u hau
            refine ⟨θ, he.put0 hi hau hf rfl 29 rfl rfl, ?_⟩
            exact hc
          · intro E θ a w hD hi hp he hc
            have e25 := hp.of (k := 25) rfl
            have hf := he.h0
            replace hf := hf.more he 29 rfl (onP e25)
            refine stP hf rfl rfl rfl (pFA fa_120_0 rfl) fun a hf => ?_
            refine cNil ?_
            refine xThenN ?_
            intro ds u hau
            refine ⟨θ, he.put0 hi hau hf rfl 30 rfl rfl, ?_⟩
            exact hc
          · intro E θ a w hD hi hp he hc
            have e26 := hp.of (k := 26) rfl
            have hf := he.h0
            replace hf := hf.more he 30 rfl (onP e26)
            refine stP hf rfl rfl rfl (pFA fa_24_1 rfl) fun a hf => ?_
            refine cNil ?_
            refine xThenN ?_
            intro ds u hau
            refine ⟨θ, he.put0 hi hau hf rfl 31 rfl rfl, ?_⟩
            exact hc
          · intro E θ a w hD hi hp he hc
            have e27 := hp.of (k := 27) rfl
            have e29 := hD.f 11 rfl hi
            have e30 := hD.f 10 rfl e29
            try dsimp only at hc
            rw [e30] at hc
            have hf := he.h0
            replace hf := hf.more he 31 rfl (onP e27)
            refine stE hf hc rfl rfl rfl (eLd1 sc_3 rfl (cell_box m0 rfl)) fun a w hf hc => ?_
            refine cNil ?_
            refine xThenN ?_
            intro ds u hau
            refine ⟨θ, he.put0 hi hau hf rfl 32 rfl rfl, ?_⟩
            try dsimp only
            rw [updE_fls 28 e30 rfl]
            exact hc
          · intro E θ a w hD hi hp he hc
            have e23 := hp.of (k := 23) rfl
            have e28 := hp.of (k := 28) rfl
            have hf := he.h0
            replace hf := hf.more he 27 rfl (onP e23)
            replace hf := hf.more he 32 rfl (onP e28)
            refine stP hf rfl rfl rfl (pAdd rfl rfl) fun a hf => ?_
            refine cNil ?_
            refine xThenN ?_
            intro ds u hau
            refine ⟨θ, he.put0 hi hau hf rfl 33 rfl rfl, ?_⟩
            exact hc
          · intro E θ a w hD hi hp he hc
            have e0 := hp.of (k := 0) rfl
            have e1 := hp.of (k := 1) rfl
            have e15 := hp.of (k := 15) rfl
            have e29 := hp.of (k := 29) rfl
            try dsimp only at hc
            rw [hi] at hc
            have hf := he.h0
            replace hf := hf.more he 4 rfl (onP e0)
            replace hf := hf.more he 5 rfl (onP e1)
            replace hf := hf.more he 19 rfl (onP e15)
            replace hf := hf.more he 33 rfl (onP e29)
            refine stC (vs := [.int .i64 xv_3, .int .i64 (W (e_3.Lo - r.Rise)), .int .i64 (W (e_4.Hi + r.Fall))]) (caps := [.pointer (some ⟨b_3, 0, none⟩)]) hf rfl rfl rfl en_121 rfl rfl rfl rfl (daily_opened_1_ok xv_3 (W (e_3.Lo - r.Rise)) (W (e_4.Hi + r.Fall)) r.Rise r.Fall r.Days x_3 h_r_Days (((hc.pick k1).pick k1).pick k3) hr_4) ?_
            rintro _ w ⟨rfl, hl_4, hc⟩
            refine ⟨_, rfl, fun a hf => ?_⟩
            try rw [← hl_4] at hf
            try rw [← hl_4] at hc
            refine cNil ?_
            refine xThenN ?_
            intro ds u hau
            replace hc := hc.pick k0
            replace hc := hc.pick k3
            replace hc := hc.pick k3
            replace hc := hc.pick k3
            refine ⟨θ, he.put0 hi hau hf rfl 34 rfl rfl, ?_⟩
            try dsimp only
            rw [updE_self E 30]
            exact hc
          · intro E θ a w hall he hc
            have hf := he.h0
            have e30 := hall 30 rfl
            replace hf := hf.more he 1 rfl (onT)
            replace hf := hf.more he 0 rfl (onT)
            try dsimp only at hc
            rw [e30] at hc
            exact ⟨hf.keep ⟨rfl, rfl, trivial⟩, hc⟩
          rintro a w ⟨hf, hc⟩
          refine h20 _ _ ?_
          obtain ⟨_, hl_5, hF⟩ := same_len hF
          exact ⟨r_4, _, (Option.some.inj hF).symm, ⟨hl_5, rfl⟩, hc⟩
        · rintro D_2 x_3 _ a w hsF ⟨hl_3, rfl⟩ hf hc
          replace hf : Has ⟨118, markL (D_2 :: (D_1 :: []))⟩ a [(6, .pointer (some ⟨b_3, 0, none⟩)), (9, .pointer (some ⟨b_4, 0, none⟩))] := hf.keep ⟨rfl, rfl, trivial⟩
          replace hc : Ctx G (.box b_7 [.pointer (some ⟨b_2, 0, none⟩)] 116 :: .box b_8 [.bool r_3] 4 :: .box b_2 [.int .i64 r.Rise, .int .i64 r.Fall, .slice r_Days_p r.Days.length r_Days_c, .slice p_1 x_3.length c_1] 120 :: .row p_1 c_1 (x_3.map enc_api_Span) 30 2 :: .box b_4 [.func (.func 121) #[] #[.pointer (some ⟨b_3, 0, none⟩)]] 182 :: .box b_3 [.pointer (some ⟨b_2, 0, none⟩)] 116 :: (raws (D_2 :: (D_1 :: [])) ++ Lf)) w := rawsIn (C := [.box b_7 [.pointer (some ⟨b_2, 0, none⟩)] 116, .box b_8 [.bool r_3] 4]) (L := [.box b_2 [.int .i64 r.Rise, .int .i64 r.Fall, .slice r_Days_p r.Days.length r_Days_c, .slice p_1 x_3.length c_1] 120, .row p_1 c_1 (x_3.map enc_api_Span) 30 2, .box b_4 [.func (.func 121) #[] #[.pointer (some ⟨b_3, 0, none⟩)]] 182, .box b_3 [.pointer (some ⟨b_2, 0, none⟩)] 116]) hc
          replace hF : (Option.bind (daily_every_api_Span N x_3) fun r_5 => some (.inr (r.Rise, r.Fall, x_3, r_5, 0))) = some res := by rcases hsF with rfl | rfl <;> exact hF
          refine h16 _ _ ?_
          refine wp_seq_k fun K21 h21 => ?_
          obtain ⟨r_5, hr_5, hF⟩ := bnd_some hF
          refine cQ hc follows_mx (by kernel_rfl) ?_
          refine qE hf rfl rfl rfl (eLd1 sc_116 rfl (cell_box m5 rfl)) fun a hf => ?_
          refine qE hf rfl rfl rfl (eLd1 sc_116 rfl (cell_box m5 rfl)) fun a hf => ?_
          refine qE hf rfl rfl rfl (Pu.ev (pNC rfl)) fun a hf => ?_
          refine qE hf rfl rfl rfl (Pu.ev (pFA fa_120_1 rfl)) fun a hf => ?_
          refine qE hf rfl rfl rfl (eLd1 sc_25 rfl (cell_box m2 rfl)) fun a hf => ?_
          refine qE hf rfl rfl rfl (eC (v := .bool r_5) (vs := [.slice p_1 x_3.length c_1, .func (.func 123) #[] #[]]) (caps := []) en_66 rfl rfl rfl rfl (fun w hc => by obtain ⟨G1, hle1, hrd1, hc, hth1⟩ := lend hc k3; exact (daily_every_api_Span_ok x_3 hrd1 hc hr_5).mono fun e w h => ⟨h.1, ((hth1 _ _ h.2).unpick k3)⟩)) fun a hf => ?_
          refine qE hf rfl rfl rfl (Pu.ev (pA rfl)) fun a hf => ?_
          refine qE hf rfl rfl rfl (Pu.ev (pA rfl)) fun a hf => ?_
          refine qE hf rfl rfl rfl (Pu.ev (pA rfl)) fun a hf => ?_
          intro w hc
          refine h21 _ _ ?_
          refine wp_ret ?_
          obtain rfl := Option.some.inj hF
          replace hc := hc.drop k5
          replace hc := hc.drop k4
          replace hc := hc.drop k1
          replace hc := hc.drop k0
          replace hc := hc.pick k0
          replace hc := hc.pick k1
          refine outM hf ?_
          refine outML [.row p_1 c_1 (x_3.map enc_api_Span) 30 2, .box b_2 [.int .i64 r.Rise, .int .i64 r.Fall, .slice r_Days_p r.Days.length r_Days_c, .slice p_1 x_3.length c_1] 120] (D_2 :: (D_1 :: [])) hc fun w hc => ?_
          replace hc : Ctx G (.row p_1 c_1 (x_3.map enc_api_Span) 30 2 :: .box b_2 [.int .i64 r.Rise, .int .i64 r.Fall, .slice r_Days_p r.Days.length r_Days_c, .slice p_1 x_3.length c_1] 120 :: Lf) w := hc
          exact outM3 Try.results95 hf hc (show look _ 2 = _ from rfl) (show look _ 3 = _ from rfl) (show look _ 4 = _ from rfl) ⟨b_2, p_1, c_1, rfl, hc⟩
        · rintro D_2 x_3 _ a w hsF ⟨hl_3, rfl⟩ hf hc
          replace hf : Has ⟨118, markL (D_2 :: (D_1 :: []))⟩ a [(6, .pointer (some ⟨b_3, 0, none⟩)), (9, .pointer (some ⟨b_4, 0, none⟩))] := hf.keep ⟨rfl, rfl, trivial⟩
          replace hc : Ctx G (.box b_7 [.pointer (some ⟨b_2, 0, none⟩)] 116 :: .box b_8 [.bool r_3] 4 :: .box b_2 [.int .i64 r.Rise, .int .i64 r.Fall, .slice r_Days_p r.Days.length r_Days_c, .slice p_1 x_3.length c_1] 120 :: .row p_1 c_1 (x_3.map enc_api_Span) 30 2 :: .box b_4 [.func (.func 121) #[] #[.pointer (some ⟨b_3, 0, none⟩)]] 182 :: .box b_3 [.pointer (some ⟨b_2, 0, none⟩)] 116 :: (raws (D_2 :: (D_1 :: [])) ++ Lf)) w := rawsIn (C := [.box b_7 [.pointer (some ⟨b_2, 0, none⟩)] 116, .box b_8 [.bool r_3] 4]) (L := [.box b_2 [.int .i64 r.Rise, .int .i64 r.Fall, .slice r_Days_p r.Days.length r_Days_c, .slice p_1 x_3.length c_1] 120, .row p_1 c_1 (x_3.map enc_api_Span) 30 2, .box b_4 [.func (.func 121) #[] #[.pointer (some ⟨b_3, 0, none⟩)]] 182, .box b_3 [.pointer (some ⟨b_2, 0, none⟩)] 116]) hc
          replace hF : (none) = some res := by subst hsF; exact hF
          cases hF
      · rintro D_1 x_2 _ a w hsF ⟨hl, rfl⟩ hf hc
        replace hf : Has ⟨118, markL (D_1 :: [])⟩ a [(6, .pointer (some ⟨b_3, 0, none⟩)), (9, .pointer (some ⟨b_4, 0, none⟩))] := hf.keep ⟨rfl, rfl, trivial⟩
        replace hc : Ctx G (.box b_5 [.pointer (some ⟨b_2, 0, none⟩)] 116 :: .box b_6 [.bool r_1] 4 :: .box b_2 [.int .i64 r.Rise, .int .i64 r.Fall, .slice r_Days_p r.Days.length r_Days_c, .slice p_1 x_2.length c_1] 120 :: .row p_1 c_1 (x_2.map enc_api_Span) 30 2 :: .box b_4 [.func (.func 121) #[] #[.pointer (some ⟨b_3, 0, none⟩)]] 182 :: .box b_3 [.pointer (some ⟨b_2, 0, none⟩)] 116 :: (raws (D_1 :: []) ++ Lf)) w := rawsIn (C := [.box b_5 [.pointer (some ⟨b_2, 0, none⟩)] 116, .box b_6 [.bool r_1] 4]) (L := [.box b_2 [.int .i64 r.Rise, .int .i64 r.Fall, .slice r_Days_p r.Days.length r_Days_c, .slice p_1 x_2.length c_1] 120, .row p_1 c_1 (x_2.map enc_api_Span) 30 2, .box b_4 [.func (.func 121) #[] #[.pointer (some ⟨b_3, 0, none⟩)]] 182, .box b_3 [.pointer (some ⟨b_2, 0, none⟩)] 116]) hc
        replace hF : (none) = some res := by subst hsF; exact hF
        cases hF
    have ho9 : ∀ r, x9 = .out r → r = res := by
      rintro r rfl
      exact Option.some.inj hF
    replace hc := hc.nilRow 30 2
    replace hc := hc.drop k3
    refine cLoop N (loopW (S := S9) (x := x9) ?_ N (0, ([] : List api_Span)) _ _ ⟨none, 0, hf.keep ⟨rfl, rfl, rfl, rfl, trivial⟩, hc⟩ hx9)
    clear hF hf hc
    rintro ⟨x, x_1⟩ st9 a w KB9 ⟨p_1, c_1, hf, hc⟩ hF hfin9 hK9
    unfold daily_opened_b9 at hF
    refine wp_seq_k fun K22 h22 => ?_
    refine cReg ?_
    refine stP hf rfl rfl rfl (pLt rfl rfl) fun a hf => ?_
    refine cNil ?_
    refine h22 _ _ ?_
    refine wp_seq_k fun K23 h23 => ?_
    refine cCond (b := (decide (x < ((r.Days.length : Nat) : Int)))) hf rfl (fun hb => ?_) (fun hb => ?_)
    · replace hF := condT hb hF
      clear hb
      refine wp_skip ?_
      refine h23 _ _ ?_
      refine wp_seq_k fun K24 h24 => ?_
      refine wp_block ?_
      refine wp_seq_k fun K25 h25 => ?_
      refine cReg ?_
      obtain ⟨e_5, he_5, hF⟩ := bnd_some hF
      obtain ⟨b_9, o, qa_4, qp⟩ := h_r_Days.atm he_5
      refine stP hf rfl rfl rfl (pIA Try.underlying22 sz_56 rfl rfl qa_4) fun a hf => ?_
      refine stE hf hc rfl rfl rfl (eLdN (vs := [.bool e_5.Known, .int .i64 e_5.Flow.Lo, .int .i64 e_5.Flow.Hi]) ag_56 rfl rfl (cells_pc qp (n := 3) (o' := 0) rfl)) fun a w hf hc => ?_
      refine stAl (cs := [.bool false, .int .i64 0, .int .i64 0]) hf hc rfl rfl zr_56 rfl fun b_10 a w hf hc => ?_
      refine stSt (vs := [.bool e_5.Known, .int .i64 e_5.Flow.Lo, .int .i64 e_5.Flow.Hi]) hf hc rfl rfl rfl rfl sz_56 rfl rfl u0 fun w hc => ?_
      refine cNil ?_
      refine h25 _ _ ?_
      obtain ⟨r_6, hr_6, hF⟩ := bnd_some hF
      obtain ⟨un, hun, hF⟩ := bnd_some hF
      replace hc := hc.nilRow 0 0
      refine regionE (fun θ => [⟨none, none, 6, .pointer (some ⟨b_3, 0, none⟩)⟩, ⟨none, none, 8, .pointer (some ⟨b_10, 0, none⟩)⟩, ⟨none, none, 23, .slice r_Days_p r.Days.length r_Days_c⟩, ⟨none, none, 24, .int .i64 ((r.Days.length : Nat) : Int)⟩, ⟨none, none, 25, .int .i64 x⟩, ⟨some 0, none, 29, .pointer (some ⟨b_2, 0, none⟩)⟩, ⟨some 1, none, 30, .pointer (some ⟨b_2, 0, none⟩)⟩, ⟨some 2, none, 31, .pointer (some ⟨b_2, 0, none⟩)⟩, ⟨some 3, none, 32, .pointer (some ⟨b_2, 3, none⟩)⟩, ⟨some 4, none, 33, .slice p_1 x_1.length c_1⟩, ⟨some 5, none, 34, .agg #[.bool e_5.Known, .int .i64 e_5.Flow.Lo, .int .i64 e_5.Flow.Hi]⟩, ⟨some 6, none, 35, .agg #[.int .i64 r_6.Lo, .int .i64 r_6.Hi]⟩, ⟨some 7, none, 36, .slice (some ⟨(θ 56).b, 0, none⟩) 1 1⟩, ⟨some 8, none, 37, .slice ((θ 64).p) ((x_1 ++ [r_6]).length) ((θ 64).c)⟩, ⟨some 9, none, 38, .pointer (some ⟨b_2, 0, none⟩)⟩, ⟨some 10, none, 39, .pointer (some ⟨b_2, 3, none⟩)⟩]) (fun E θ => (bif E 7 then .row (some ⟨(θ 56).b, 0, none⟩) 1 (([r_6] : List api_Span).map enc_api_Span) 30 2 else .row none 0 [] 0 0) :: .box b_10 [.bool e_5.Known, .int .i64 e_5.Flow.Lo, .int .i64 e_5.Flow.Hi] 56 :: (bif E 8 then .row ((θ 64).p) ((θ 64).c) ((x_1 ++ [r_6]).map enc_api_Span) 30 2 else .row p_1 c_1 (x_1.map enc_api_Span) 30 2) :: .box b_3 [.pointer (some ⟨b_2, 0, none⟩)] 116 :: (bif E 11 then .box b_2 [.int .i64 r.Rise, .int .i64 r.Fall, .slice r_Days_p r.Days.length r_Days_c, .slice ((θ 64).p) ((x_1 ++ [r_6]).length) ((θ 64).c)] 120 else .box b_2 [.int .i64 r.Rise, .int .i64 r.Fall, .slice r_Days_p r.Days.length r_Days_c, .slice p_1 x_1.length c_1] 120) :: Lf) [(11, 4), (11, 8)] (fun a w => ∃ (b_12 : Nat) (p_3 : Option Addr) (c_3 : Nat), Has 118 a [(6, .pointer (some ⟨b_3, 0, none⟩)), (23, .slice r_Days_p r.Days.length r_Days_c), (24, .int .i64 ((r.Days.length : Nat) : Int)), (25, .int .i64 x)] ∧ Ctx G (.row (some ⟨b_12, 0, none⟩) 1 (([r_6] : List api_Span).map enc_api_Span) 30 2 :: .box b_10 [.bool e_5.Known, .int .i64 e_5.Flow.Lo, .int .i64 e_5.Flow.Hi] 56 :: .row p_3 c_3 ((x_1 ++ [r_6]).map enc_api_Span) 30 2 :: .box b_3 [.pointer (some ⟨b_2, 0, none⟩)] 116 :: .box b_2 [.int .i64 r.Rise, .int .i64 r.Fall, .slice r_Days_p r.Days.length r_Days_c, .slice p_3 ((x_1 ++ [r_6]).length) c_3] 120 :: Lf) w) follows_mx (by kernel_rfl) (by kernel_rfl) (HasE.of hf ⟨rfl, rfl, rfl, rfl, rfl, trivial, trivial, trivial, trivial, trivial, trivial, trivial, trivial, trivial, trivial, trivial, trivial⟩) hc ⟨?_, ?_, ?_, ?_, ?_, ?_, ?_, ?_, ?_, ?_, ?_, ?_, trivial⟩ ?_ ?_
      · intro E θ a w hD hi hp he hc
        have hf := he.h0
        replace hf := hf.more he 0 rfl onT
        refine stE hf hc rfl rfl rfl (eLd1 sc_116 rfl (cell_box m3 rfl)) fun a w hf hc => ?_
        refine cNil ?_
        refine xThenN ?_
        intro ds u hau
        refine ⟨θ, he.put0 hi hau hf rfl 5 rfl rfl, ?_⟩
        exact hc
      · intro E θ a w hD hi hp he hc
        have hf := he.h0
        replace hf := hf.more he 0 rfl onT
        refine stE hf hc rfl rfl rfl (eLd1 sc_116 rfl (cell_box m3 rfl)) fun a w hf hc => ?_
        refine cNil ?_
        refine xThenN ?_
        intro ds u hau
        refine ⟨θ, he.put0 hi hau hf rfl 6 rfl rfl, ?_⟩
        exact hc
      · intro E θ a w hD hi hp he hc
        have e1 := hp.of (k := 1) rfl
        have hf := he.h0
        replace hf := hf.more he 6 rfl (onP e1)
        refine stP hf rfl rfl rfl (pNC rfl) fun a hf => ?_
        refine cNil ?_
        refine xThenN ?_
        intro ds u hau
        refine ⟨θ, he.put0 hi hau hf rfl 7 rfl rfl, ?_⟩
        exact hc
      · intro E θ a w hD hi hp he hc
        have e2 := hp.of (k := 2) rfl
        have hf := he.h0
        replace hf := hf.more he 7 rfl (onP e2)
        refine stP hf rfl rfl rfl (pFA fa_120_1 rfl) fun a hf => ?_
        refine cNil ?_
        refine xThenN ?_
        intro ds u hau
        refine ⟨θ, he.put0 hi hau hf rfl 8 rfl rfl, ?_⟩
        exact hc
      · intro E θ a w hD hi hp he hc
        have e3 := hp.of (k := 3) rfl
        have e11 := hD.f 0 rfl hi
        try dsimp only at hc
        rw [e11] at hc
        have hf := he.h0
        replace hf := hf.more he 8 rfl (onP e3)
        refine stE hf hc rfl rfl rfl (eLd1 sc_25 rfl (cell_box m4 rfl)) fun a w hf hc => ?_
        refine cNil ?_
        refine xThenN ?_
        intro ds u hau
        refine ⟨θ, he.put0 hi hau hf rfl 9 rfl rfl, ?_⟩
        try dsimp only
        rw [updE_fls 4 e11 rfl]
        exact hc
      · intro E θ a w hD hi hp he hc
        have hf := he.h0
        replace hf := hf.more he 1 rfl onT
        refine stE hf hc rfl rfl rfl (eLdN (vs := [.bool e_5.Known, .int .i64 e_5.Flow.Lo, .int .i64 e_5.Flow.Hi]) ag_56 rfl rfl (cells_box (n := 3) m1 rfl)) fun a w hf hc => ?_
        refine cNil ?_
        refine xThenN ?_
        intro ds u hau
        refine ⟨θ, he.put0 hi hau hf rfl 10 rfl rfl, ?_⟩
        exact hc
      · intro E θ a w hD hi hp he hc
        have e5 := hp.of (k := 5) rfl
        have hf := he.h0
        replace hf := hf.more he 10 rfl (onP e5)
        refine stE hf hc rfl rfl rfl (eC (v := .agg #[.int .i64 r_6.Lo, .int .i64 r_6.Hi]) (vs := [.agg #[.bool e_5.Known, .int .i64 e_5.Flow.Lo, .int .i64 e_5.Flow.Hi]]) (caps := []) en_72 rfl rfl rfl rfl (fun w hc => daily_Value_span_ok e_5 hc hr_6)) fun a w hf hc => ?_
        refine cNil ?_
        refine xThenN ?_
        intro ds u hau
        refine ⟨θ, he.put0 hi hau hf rfl 11 rfl rfl, ?_⟩
        exact hc
      · intro E θ a w hD hi hp he hc
        have e6 := hp.of (k := 6) rfl
        try dsimp only at hc
        rw [hi] at hc
        have hf := he.h0
        replace hf := hf.more he 11 rfl (onP e6)
        refine stBS (rows := ([r_6] : List api_Span).map enc_api_Span) (vs := [(0, .agg #[.int .i64 r_6.Lo, .int .i64 r_6.Hi])]) hf hc rfl rfl sl_25 rfl ⟨rfl, rfl, rfl, trivial⟩ rfl rfl fun b_11 a w hf hc => ?_
        refine cNil ?_
        refine xThenN ?_
        intro ds u hau
        replace hc := hc.drop k1
        refine ⟨(setT θ 56 ⟨b_11, none, 0⟩), he.put hi hau hf rfl [] trivial ⟨qq, qq, qq, qq, qq, qq, qq, qq, qq, qq, qq, qq, qq, qq, qq, qq, trivial⟩, ?_⟩
        try dsimp only
        rw [updE_self E 7]
        exact hc
      · intro E θ a w hD hi hp he hc
        have e4 := hp.of (k := 4) rfl
        have e7 := hp.of (k := 7) rfl
        have e11 := hD.f 1 rfl hi
        try dsimp only at hc
        rw [e7, hi, e11] at hc
        have hf := he.h0
        replace hf := hf.more he 9 rfl (onP e4)
        replace hf := hf.more he 12 rfl (onP e7)
        refine stApm (xs := x_1) (ys := ([r_6] : List api_Span)) hf hc rfl rfl sl_25 rfl rfl rfl rfl rfl one_enc_api_Span (src_row hc m0) (fun _ _ => u2) (by simpa using room_spec hun) fun p_2 c_2 a w hf hc => ?_
        refine cNil ?_
        refine xThenN ?_
        intro ds u hau
        refine ⟨(setT θ 64 ⟨0, p_2, c_2⟩), he.put hi hau hf rfl [] trivial ⟨qq, qq, qq, qq, qq, qq, qq, qq, qq, qq, qq, qq, qq, qq, qq, qq, trivial⟩, ?_⟩
        try dsimp only
        rw [updE_tru 8 e7, updE_self E 8, updE_fls 8 e11 rfl]
        exact hc
      · intro E θ a w hD hi hp he hc
        have e0 := hp.of (k := 0) rfl
        have hf := he.h0
        replace hf := hf.more he 5 rfl (onP e0)
        refine stP hf rfl rfl rfl (pNC rfl) fun a hf => ?_
        refine cNil ?_
        refine xThenN ?_
        intro ds u hau
        refine ⟨θ, he.put0 hi hau hf rfl 14 rfl rfl, ?_⟩
        exact hc
      · intro E θ a w hD hi hp he hc
        have e9 := hp.of (k := 9) rfl
        have hf := he.h0
        replace hf := hf.more he 14 rfl (onP e9)
        refine stP hf rfl rfl rfl (pFA fa_120_1 rfl) fun a hf => ?_
        refine cNil ?_
        refine xThenN ?_
        intro ds u hau
        refine ⟨θ, he.put0 hi hau hf rfl 15 rfl rfl, ?_⟩
        exact hc
      · intro E θ a w hD hi hp he hc
        have e8 := hp.of (k := 8) rfl
        have e10 := hp.of (k := 10) rfl
        try dsimp only at hc
        rw [hi] at hc
        have hf := he.h0
        replace hf := hf.more he 13 rfl (onP e8)
        replace hf := hf.more he 15 rfl (onP e10)
        refine stSt (vs := [.slice ((θ 64).p) ((x_1 ++ [r_6]).length) ((θ 64).c)]) hf hc rfl rfl rfl rfl sz_25 rfl rfl u4 fun w hc => ?_
        refine cNil ?_
        refine xThenN ?_
        intro ds u hau
        refine ⟨θ, he.stay0 hi hau hf rfl, ?_⟩
        try dsimp only
        rw [updE_self E 11]
        exact hc
      · intro E θ a w hall he hc
        have hf := he.h0
        have e7 := hall 7 rfl
        have e8 := hall 8 rfl
        have e11 := hall 11 rfl
        replace hf := hf.more he 4 rfl (onT)
        replace hf := hf.more he 3 rfl (onT)
        replace hf := hf.more he 2 rfl (onT)
        replace hf := hf.more he 0 rfl (onT)
        try dsimp only at hc
        rw [e7, e8, e11] at hc
        exact ⟨(θ 56).b, (θ 64).p, (θ 64).c, hf.keep ⟨rfl, rfl, rfl, rfl, trivial⟩, hc⟩
      rintro a w ⟨b_12, p_3, c_3, hf, hc⟩
      refine h24 _ _ ?_
      refine cReg ?_
      refine stP hf rfl rfl rfl (pAdd rfl rfl) fun a hf => ?_
      refine stP hf rfl rfl rfl (pM rfl) fun a hf => ?_
      refine cNil ?_
      replace hc := hc.drop k1
      replace hc := hc.drop k0
      exact hK9 (W (x + 1), (x_1 ++ [r_6])) _ _ (Option.some.inj hF).symm ⟨p_3, c_3, hf.keep ⟨rfl, rfl, rfl, rfl, trivial⟩, hc⟩
    · replace hF := condF hb hF
      clear hb
      refine wp_exit ?_
      refine xThen ?_
      refine xThen ?_
      have he := Option.some.inj hF
      rw [← he] at hfin9
      refine cHit ?_
      exact hr9 _ _ _ hfin9 ⟨p_1, c_1, hf.keep ⟨rfl, rfl, rfl, rfl, trivial⟩, hc⟩

def daily_agreed_j3 (N : Nat) (e_1 : Int) : Option ((Int) ⊕ (Int × Int × (List api_Span) × Int)) :=
  some (.inl e_1)
def daily_agreed_j6 (N : Nat) (r_1 : Int × Int × (List api_Span) × Bool × Int) (e_2 : Int) : Option ((Int) ⊕ (Int × Int × (List api_Span) × Int)) :=
  some (.inr (r_1.1, r_1.2.1, r_1.2.2.1, e_2))
def daily_agreed (N : Nat) (r : daily_Record) : Option ((Int) ⊕ (Int × Int × (List api_Span) × Int)) :=
  Option.bind (daily_opened N r) (sumK (fun r_0 => cond ((r_0.2 == 0) && (!r_0.1))
  (daily_agreed_j3 N 7)
  (daily_agreed_j3 N r_0.2))
  (fun r_1 => cond ((r_1.2.2.2.2 == 0) && (!r_1.2.2.2.1))
  (daily_agreed_j6 N r_1 7)
  (daily_agreed_j6 N r_1 r_1.2.2.2.2)))
theorem daily_agreed_ok {N : Nat} {G : Pers} {Lf : List Ent} {w : World} (r : daily_Record) {r_Days_p : Option Addr} {r_Days_c : Nat} (h_r_Days : Rd G 3 r_Days_p r_Days_c (r.Days.map enc_daily_Value)) (hc : Ctx G (Lf) w) {res : (Int) ⊕ (Int × Int × (List api_Span) × Int)} (hF : daily_agreed N r = some res) : Calls Try.prog 61 #[.agg #[.int .i64 r.Rise, .int .i64 r.Fall, .slice r_Days_p r.Days.length r_Days_c]] w (fun e w => sumK (fun rr => e = .returned (.tuple #[.pointer none, .int .i64 rr]) ∧ Ctx G (Lf) w) (fun rr => ∃ (b'1 : Nat) (p'1 : Option Addr) (c'1 : Nat), e = .returned (.tuple #[.pointer (some ⟨b'1, 0, none⟩), .int .i64 rr.2.2.2]) ∧ Ctx G (.row p'1 c'1 (rr.2.2.1.map enc_api_Span) 30 2 :: .box b'1 [.int .i64 rr.1, .int .i64 rr.2.1, .slice r_Days_p r.Days.length r_Days_c, .slice p'1 rr.2.2.1.length c'1] 120 :: Lf) w) res) := by
  unfold daily_agreed at hF
  refine fnIn (args := [.agg #[.int .i64 r.Rise, .int .i64 r.Fall, .slice r_Days_p r.Days.length r_Days_c]]) Try.func61 rfl Try.ntmps61 rfl fun a hf => ?_
  refine wp_seq_k fun K1 h1 => ?_
  refine cReg ?_
  refine stBx (cs := [.int .i64 r.Rise, .int .i64 r.Fall, .slice r_Days_p r.Days.length r_Days_c]) hf hc rfl rfl rfl rfl fun b_1 a w hf hc => ?_
  refine stP hf rfl rfl rfl (pA rfl) fun a hf => ?_
  refine stP hf rfl rfl rfl (pA rfl) fun a hf => ?_
  refine cNil ?_
  refine h1 _ _ ?_
  refine wp_seq_k fun K2 h2 => ?_
  refine cReg ?_
  refine stE hf hc rfl rfl rfl (eLdN (vs := [.int .i64 r.Rise, .int .i64 r.Fall, .slice r_Days_p r.Days.length r_Days_c]) ag_24 rfl rfl (cells_box (n := 3) m0 rfl)) fun a w hf hc => ?_
  obtain ⟨r_0, hr_0, hF⟩ := bnd_some hF
  cases r_0 with
  | inl r_0 =>
    replace hF := sumKl hF
    refine stC (vs := [.agg #[.int .i64 r.Rise, .int .i64 r.Fall, .slice r_Days_p r.Days.length r_Days_c]]) (caps := []) hf rfl rfl rfl en_95 rfl rfl rfl rfl (daily_opened_ok r h_r_Days hc hr_0) ?_
    rintro _ w ⟨rfl, hc⟩
    refine ⟨_, rfl, fun a hf => ?_⟩
    refine stP hf rfl rfl rfl (pM rfl) fun a hf => ?_
    refine stP hf rfl rfl rfl (pX rfl rfl) fun a hf => ?_
    refine stP hf rfl rfl rfl (pX rfl rfl) fun a hf => ?_
    refine stP hf rfl rfl rfl (pX rfl rfl) fun a hf => ?_
    refine stP hf rfl rfl rfl (pA rfl) fun a hf => ?_
    refine stP hf rfl rfl rfl (pA rfl) fun a hf => ?_
    refine stP hf rfl rfl rfl (pA rfl) fun a hf => ?_
    refine cNil ?_
    refine h2 _ _ ?_
    refine wp_seq_k fun K3 h3 => ?_
    have hj3 : ∀ (e_1 : Int) a w, Has 21 a [(4, .pointer none), (6, .int .i64 e_1)] → Ctx G (Lf) w → daily_agreed_j3 N e_1 = some res → K3 a w := by
      repeat (clear hF)
      repeat (clear hc)
      repeat (clear hf)
      intro e_1 a w hf hc hF
      unfold daily_agreed_j3 at hF
      refine h3 _ _ ?_
      refine wp_seq_k fun K4 h4 => ?_
      refine cReg ?_
      refine stP hf rfl rfl rfl (pM rfl) fun a hf => ?_
      refine stP hf rfl rfl rfl (pM rfl) fun a hf => ?_
      refine stP hf rfl rfl rfl (pA rfl) fun a hf => ?_
      refine stP hf rfl rfl rfl (pA rfl) fun a hf => ?_
      refine cNil ?_
      refine h4 _ _ ?_
      refine wp_ret ?_
      obtain rfl := Option.some.inj hF
      exact fnOut2 (by simp) rfl Try.results61 hf hc (show look _ 2 = _ from rfl) (show look _ 3 = _ from rfl) ⟨rfl, hc⟩
    refine wp_seq_k fun K5 h5 => ?_
    refine cReg ?_
    refine stP hf rfl rfl rfl (pM rfl) fun a hf => ?_
    refine stP hf rfl rfl rfl (pEq rfl rfl) fun a hf => ?_
    refine stP hf rfl rfl rfl (pM rfl) fun a hf => ?_
    refine stCut 3 (fun a w => Has 21 a [(4, .pointer none), (5, .bool r_0.1), (6, .int .i64 r_0.2), (13, .int .i64 r_0.2), (14, .bool (r_0.2 == 0)), (15, .bool (r_0.2 == 0)), (18, .bool ((r_0.2 == 0) && (!r_0.1)))] ∧ Ctx G (.box b_1 [.int .i64 r.Rise, .int .i64 r.Fall, .slice r_Days_p r.Days.length r_Days_c] 24 :: Lf) w) ?_ ?_
    · cases hb : (r_0.2 == 0)
      · rw [hb] at hf
        refine stS hf rfl rfl rfl fun a hf => ?_
        refine stS hf rfl rfl rfl fun a hf => ?_
        refine stP hf rfl rfl rfl (pPf rfl rfl) fun a hf => ?_
        exact cNil ⟨hf.keep ⟨rfl, rfl, rfl, rfl, rfl, rfl, rfl, trivial⟩, hc⟩
      · rw [hb] at hf
        refine stP hf rfl rfl rfl (pM rfl) fun a hf => ?_
        refine stP hf rfl rfl rfl (pNot rfl) fun a hf => ?_
        refine stP hf rfl rfl rfl (pPt rfl rfl) fun a hf => ?_
        exact cNil ⟨hf.keep ⟨rfl, rfl, rfl, rfl, rfl, rfl, rfl, trivial⟩, hc⟩
    intro a w ⟨hf, hc⟩
    refine cNil ?_
    refine h5 _ _ ?_
    refine cCond (b := ((r_0.2 == 0) && (!r_0.1))) hf rfl (fun hb => ?_) (fun hb => ?_)
    · replace hF := condT hb hF
      clear hb
      refine cReg ?_
      refine stP hf rfl rfl rfl (pA rfl) fun a hf => ?_
      refine cNil ?_
      replace hc := hc.drop k0
      exact hj3 7 _ _  (hf.keep ⟨rfl, rfl, trivial⟩) hc hF
    · replace hF := condF hb hF
      clear hb
      refine wp_skip ?_
      replace hc := hc.drop k0
      exact hj3 r_0.2 _ _  (hf.keep ⟨rfl, rfl, trivial⟩) hc hF
  | inr r_1 =>
    replace hF := sumKr hF
    have hr_1 := hr_0
    refine stC (vs := [.agg #[.int .i64 r.Rise, .int .i64 r.Fall, .slice r_Days_p r.Days.length r_Days_c]]) (caps := []) hf rfl rfl rfl en_95 rfl rfl rfl rfl (daily_opened_ok r h_r_Days hc hr_1) ?_
    rintro _ w ⟨b_2, p_1, c_1, rfl, hc⟩
    refine ⟨_, rfl, fun a hf => ?_⟩
    refine stP hf rfl rfl rfl (pM rfl) fun a hf => ?_
    refine stP hf rfl rfl rfl (pX rfl rfl) fun a hf => ?_
    refine stP hf rfl rfl rfl (pX rfl rfl) fun a hf => ?_
    refine stP hf rfl rfl rfl (pX rfl rfl) fun a hf => ?_
    refine stP hf rfl rfl rfl (pA rfl) fun a hf => ?_
    refine stP hf rfl rfl rfl (pA rfl) fun a hf => ?_
    refine stP hf rfl rfl rfl (pA rfl) fun a hf => ?_
    refine cNil ?_
    refine h2 _ _ ?_
    refine wp_seq_k fun K6 h6 => ?_
    have hj6 : ∀ (e_2 : Int) a w, Has 21 a [(4, .pointer (some ⟨b_2, 0, none⟩)), (6, .int .i64 e_2)] → Ctx G (.row p_1 c_1 (r_1.2.2.1.map enc_api_Span) 30 2 :: .box b_2 [.int .i64 r_1.1, .int .i64 r_1.2.1, .slice r_Days_p r.Days.length r_Days_c, .slice p_1 r_1.2.2.1.length c_1] 120 :: Lf) w → daily_agreed_j6 N r_1 e_2 = some res → K6 a w := by
      repeat (clear hF)
      repeat (clear hc)
      repeat (clear hf)
      intro e_2 a w hf hc hF
      unfold daily_agreed_j6 at hF
      refine h6 _ _ ?_
      refine wp_seq_k fun K7 h7 => ?_
      refine cReg ?_
      refine stP hf rfl rfl rfl (pM rfl) fun a hf => ?_
      refine stP hf rfl rfl rfl (pM rfl) fun a hf => ?_
      refine stP hf rfl rfl rfl (pA rfl) fun a hf => ?_
      refine stP hf rfl rfl rfl (pA rfl) fun a hf => ?_
      refine cNil ?_
      refine h7 _ _ ?_
      refine wp_ret ?_
      obtain rfl := Option.some.inj hF
      exact fnOut2 (by simp) rfl Try.results61 hf hc (show look _ 2 = _ from rfl) (show look _ 3 = _ from rfl) ⟨b_2, p_1, c_1, rfl, hc⟩
    refine wp_seq_k fun K8 h8 => ?_
    refine cReg ?_
    refine stP hf rfl rfl rfl (pM rfl) fun a hf => ?_
    refine stP hf rfl rfl rfl (pEq rfl rfl) fun a hf => ?_
    refine stP hf rfl rfl rfl (pM rfl) fun a hf => ?_
    refine stCut 3 (fun a w => Has 21 a [(4, .pointer (some ⟨b_2, 0, none⟩)), (5, .bool r_1.2.2.2.1), (6, .int .i64 r_1.2.2.2.2), (13, .int .i64 r_1.2.2.2.2), (14, .bool (r_1.2.2.2.2 == 0)), (15, .bool (r_1.2.2.2.2 == 0)), (18, .bool ((r_1.2.2.2.2 == 0) && (!r_1.2.2.2.1)))] ∧ Ctx G (.row p_1 c_1 (r_1.2.2.1.map enc_api_Span) 30 2 :: .box b_2 [.int .i64 r_1.1, .int .i64 r_1.2.1, .slice r_Days_p r.Days.length r_Days_c, .slice p_1 r_1.2.2.1.length c_1] 120 :: .box b_1 [.int .i64 r.Rise, .int .i64 r.Fall, .slice r_Days_p r.Days.length r_Days_c] 24 :: Lf) w) ?_ ?_
    · cases hb : (r_1.2.2.2.2 == 0)
      · rw [hb] at hf
        refine stS hf rfl rfl rfl fun a hf => ?_
        refine stS hf rfl rfl rfl fun a hf => ?_
        refine stP hf rfl rfl rfl (pPf rfl rfl) fun a hf => ?_
        exact cNil ⟨hf.keep ⟨rfl, rfl, rfl, rfl, rfl, rfl, rfl, trivial⟩, hc⟩
      · rw [hb] at hf
        refine stP hf rfl rfl rfl (pM rfl) fun a hf => ?_
        refine stP hf rfl rfl rfl (pNot rfl) fun a hf => ?_
        refine stP hf rfl rfl rfl (pPt rfl rfl) fun a hf => ?_
        exact cNil ⟨hf.keep ⟨rfl, rfl, rfl, rfl, rfl, rfl, rfl, trivial⟩, hc⟩
    intro a w ⟨hf, hc⟩
    refine cNil ?_
    refine h8 _ _ ?_
    refine cCond (b := ((r_1.2.2.2.2 == 0) && (!r_1.2.2.2.1))) hf rfl (fun hb => ?_) (fun hb => ?_)
    · replace hF := condT hb hF
      clear hb
      refine cReg ?_
      refine stP hf rfl rfl rfl (pA rfl) fun a hf => ?_
      refine cNil ?_
      replace hc := hc.drop k2
      exact hj6 7 _ _  (hf.keep ⟨rfl, rfl, trivial⟩) hc hF
    · replace hF := condF hb hF
      clear hb
      refine wp_skip ?_
      replace hc := hc.drop k2
      exact hj6 r_1.2.2.2.2 _ _  (hf.keep ⟨rfl, rfl, trivial⟩) hc hF

def daily_Fill (N : Nat) (r : daily_Record) : Option ((List api_Span) × Int) :=
  Option.bind (daily_agreed N r) (sumK (fun r_0 => cond (r_0 != 0)
  (some (([] : List api_Span), r_0))
  (none))
  (fun r_1 => cond (r_1.2.2.2 != 0)
  (some (([] : List api_Span), r_1.2.2.2))
  (some (r_1.2.2.1, 0))))
theorem daily_Fill_ok {N : Nat} {G : Pers} {Lf : List Ent} {w : World} (r : daily_Record) {r_Days_p : Option Addr} {r_Days_c : Nat} (h_r_Days : Rd G 3 r_Days_p r_Days_c (r.Days.map enc_daily_Value)) (hc : Ctx G (Lf) w) {res : (List api_Span) × Int} (hF : daily_Fill N r = some res) : Calls Try.prog 29 #[.agg #[.int .i64 r.Rise, .int .i64 r.Fall, .slice r_Days_p r.Days.length r_Days_c]] w (fun e w => ∃ (p'1 : Option Addr) (c'1 : Nat), e = .returned (.tuple #[.slice p'1 res.1.length c'1, .int .i64 res.2]) ∧ Ctx G (.row p'1 c'1 (res.1.map enc_api_Span) 30 2 :: Lf) w) := by
  unfold daily_Fill at hF
  refine fnIn (args := [.agg #[.int .i64 r.Rise, .int .i64 r.Fall, .slice r_Days_p r.Days.length r_Days_c]]) Try.func29 rfl Try.ntmps29 rfl fun a hf => ?_
  refine wp_seq_k fun K1 h1 => ?_
  refine cReg ?_
  refine stBx (cs := [.int .i64 r.Rise, .int .i64 r.Fall, .slice r_Days_p r.Days.length r_Days_c]) hf hc rfl rfl rfl rfl fun b_1 a w hf hc => ?_
  refine stP hf rfl rfl rfl (pA rfl) fun a hf => ?_
  refine stP hf rfl rfl rfl (pA rfl) fun a hf => ?_
  refine cNil ?_
  refine h1 _ _ ?_
  refine wp_seq_k fun K2 h2 => ?_
  refine cReg ?_
  refine stE hf hc rfl rfl rfl (eLdN (vs := [.int .i64 r.Rise, .int .i64 r.Fall, .slice r_Days_p r.Days.length r_Days_c]) ag_24 rfl rfl (cells_box (n := 3) m0 rfl)) fun a w hf hc => ?_
  obtain ⟨r_0, hr_0, hF⟩ := bnd_some hF
  cases r_0 with
  | inl r_0 =>
    replace hF := sumKl hF
    refine stC (vs := [.agg #[.int .i64 r.Rise, .int .i64 r.Fall, .slice r_Days_p r.Days.length r_Days_c]]) (caps := []) hf rfl rfl rfl en_61 rfl rfl rfl rfl (daily_agreed_ok r h_r_Days hc hr_0) ?_
    rintro _ w ⟨rfl, hc⟩
    refine ⟨_, rfl, fun a hf => ?_⟩
    refine stP hf rfl rfl rfl (pM rfl) fun a hf => ?_
    refine stP hf rfl rfl rfl (pX rfl rfl) fun a hf => ?_
    refine stP hf rfl rfl rfl (pX rfl rfl) fun a hf => ?_
    refine stP hf rfl rfl rfl (pA rfl) fun a hf => ?_
    refine stP hf rfl rfl rfl (pA rfl) fun a hf => ?_
    refine cNil ?_
    refine h2 _ _ ?_
    refine wp_seq_k fun K3 h3 => ?_
    refine wp_seq_k fun K4 h4 => ?_
    refine cReg ?_
    refine stP hf rfl rfl rfl (pM rfl) fun a hf => ?_
    refine stP hf rfl rfl rfl (pNe rfl rfl) fun a hf => ?_
    refine cNil ?_
    refine h4 _ _ ?_
    refine cCond (b := (r_0 != 0)) hf rfl (fun hb => ?_) (fun hb => ?_)
    · replace hF := condT hb hF
      clear hb
      refine wp_seq_k fun K5 h5 => ?_
      refine cReg ?_
      refine stP hf rfl rfl rfl (pM rfl) fun a hf => ?_
      refine stP hf rfl rfl rfl (pA rfl) fun a hf => ?_
      refine stP hf rfl rfl rfl (pA rfl) fun a hf => ?_
      refine cNil ?_
      refine h5 _ _ ?_
      refine wp_ret ?_
      refine xThenR ?_
      obtain rfl := Option.some.inj hF
      replace hc := hc.nilRow 30 2
      replace hc := hc.drop k1
      exact fnOut2 (by simp) rfl Try.results29 hf hc (show look _ 2 = _ from rfl) (show look _ 3 = _ from rfl) ⟨none, 0, rfl, hc⟩
    · replace hF := condF hb hF
      clear hb
      refine wp_skip ?_
      refine h3 _ _ ?_
      refine wp_seq_k fun K6 h6 => ?_
      exact noneO hF
  | inr r_1 =>
    replace hF := sumKr hF
    have hr_1 := hr_0
    refine stC (vs := [.agg #[.int .i64 r.Rise, .int .i64 r.Fall, .slice r_Days_p r.Days.length r_Days_c]]) (caps := []) hf rfl rfl rfl en_61 rfl rfl rfl rfl (daily_agreed_ok r h_r_Days hc hr_1) ?_
    rintro _ w ⟨b_2, p_1, c_1, rfl, hc⟩
    refine ⟨_, rfl, fun a hf => ?_⟩
    refine stP hf rfl rfl rfl (pM rfl) fun a hf => ?_
    refine stP hf rfl rfl rfl (pX rfl rfl) fun a hf => ?_
    refine stP hf rfl rfl rfl (pX rfl rfl) fun a hf => ?_
    refine stP hf rfl rfl rfl (pA rfl) fun a hf => ?_
    refine stP hf rfl rfl rfl (pA rfl) fun a hf => ?_
    refine cNil ?_
    refine h2 _ _ ?_
    refine wp_seq_k fun K7 h7 => ?_
    refine wp_seq_k fun K8 h8 => ?_
    refine cReg ?_
    refine stP hf rfl rfl rfl (pM rfl) fun a hf => ?_
    refine stP hf rfl rfl rfl (pNe rfl rfl) fun a hf => ?_
    refine cNil ?_
    refine h8 _ _ ?_
    refine cCond (b := (r_1.2.2.2 != 0)) hf rfl (fun hb => ?_) (fun hb => ?_)
    · replace hF := condT hb hF
      clear hb
      refine wp_seq_k fun K9 h9 => ?_
      refine cReg ?_
      refine stP hf rfl rfl rfl (pM rfl) fun a hf => ?_
      refine stP hf rfl rfl rfl (pA rfl) fun a hf => ?_
      refine stP hf rfl rfl rfl (pA rfl) fun a hf => ?_
      refine cNil ?_
      refine h9 _ _ ?_
      refine wp_ret ?_
      refine xThenR ?_
      obtain rfl := Option.some.inj hF
      replace hc := hc.nilRow 30 2
      replace hc := hc.drop k3
      replace hc := hc.drop k2
      replace hc := hc.drop k1
      exact fnOut2 (by simp) rfl Try.results29 hf hc (show look _ 2 = _ from rfl) (show look _ 3 = _ from rfl) ⟨none, 0, rfl, hc⟩
    · replace hF := condF hb hF
      clear hb
      refine wp_skip ?_
      refine h7 _ _ ?_
      refine wp_seq_k fun K10 h10 => ?_
      refine cReg ?_
      refine stP hf rfl rfl rfl (pM rfl) fun a hf => ?_
      refine stP hf rfl rfl rfl (pNC rfl) fun a hf => ?_
      refine stP hf rfl rfl rfl (pFA fa_120_1 rfl) fun a hf => ?_
      refine stE hf hc rfl rfl rfl (eLd1 sc_25 rfl (cell_box m1 rfl)) fun a w hf hc => ?_
      refine stP hf rfl rfl rfl (pA rfl) fun a hf => ?_
      refine stP hf rfl rfl rfl (pA rfl) fun a hf => ?_
      refine cNil ?_
      refine h10 _ _ ?_
      refine wp_ret ?_
      obtain rfl := Option.some.inj hF
      replace hc := hc.drop k2
      replace hc := hc.drop k1
      exact fnOut2 (by simp) rfl Try.results29 hf hc (show look _ 2 = _ from rfl) (show look _ 3 = _ from rfl) ⟨p_1, c_1, rfl, hc⟩

def law07_Four (N : Nat) (least : Int) : Option (daily_Record) :=
  Option.bind (law07_known N 20 30) fun r =>
  Option.bind (law07_known N least 90) fun r_1 =>
  some (⟨10, 5, ([r, (⟨false, (⟨0, 0⟩ : api_Span)⟩ : daily_Value), (⟨false, (⟨0, 0⟩ : api_Span)⟩ : daily_Value), r_1] : List daily_Value)⟩ : daily_Record)
theorem law07_Four_ok {N : Nat} {G : Pers} {Lf : List Ent} {w : World} (least : Int)   (hc : Ctx G (Lf) w) {res : daily_Record} (hF : law07_Four N least = some res) : Calls Try.prog 58 #[.int .i64 least] w (fun e w => ∃ (p'1 : Option Addr) (c'1 : Nat), e = .returned (.agg #[.int .i64 res.Rise, .int .i64 res.Fall, .slice p'1 res.Days.length c'1]) ∧ Ctx G (.row p'1 c'1 (res.Days.map enc_daily_Value) 56 3 :: Lf) w) := by
  unfold law07_Four at hF
  refine fnIn (args := [.int .i64 least]) Try.func58 rfl Try.ntmps58 rfl fun a hf => ?_
  refine wp_seq_k fun K1 h1 => ?_
  refine cReg ?_
  refine stAl (cs := [.int .i64 0, .int .i64 0, .slice none 0 0]) hf hc rfl rfl zr_24 rfl fun b_1 a w hf hc => ?_
  refine cNil ?_
  refine h1 _ _ ?_
  refine wp_seq_k fun K2 h2 => ?_
  refine cReg ?_
  obtain ⟨r, hr, hF⟩ := bnd_some hF
  refine stE hf hc rfl rfl rfl (eC (v := .agg #[.bool r.Known, .int .i64 r.Flow.Lo, .int .i64 r.Flow.Hi]) (vs := [.int .i64 20, .int .i64 30]) (caps := []) en_27 rfl rfl rfl rfl (fun w hc => law07_known_ok 20 30 hc hr)) fun a w hf hc => ?_
  refine stP hf rfl rfl rfl (pBuildS (cells := [.bool false, .int .i64 0, .int .i64 0]) bt_56 rfl rfl) fun a hf => ?_
  refine stP hf rfl rfl rfl (pBuildS (cells := [.bool false, .int .i64 0, .int .i64 0]) bt_56 rfl rfl) fun a hf => ?_
  refine stP hf rfl rfl rfl (pM rfl) fun a hf => ?_
  obtain ⟨r_1, hr_1, hF⟩ := bnd_some hF
  refine stE hf hc rfl rfl rfl (eC (v := .agg #[.bool r_1.Known, .int .i64 r_1.Flow.Lo, .int .i64 r_1.Flow.Hi]) (vs := [.int .i64 least, .int .i64 90]) (caps := []) en_27 rfl rfl rfl rfl (fun w hc => law07_known_ok least 90 hc hr_1)) fun a w hf hc => ?_
  refine stBS (rows := ([r, (⟨false, (⟨0, 0⟩ : api_Span)⟩ : daily_Value), (⟨false, (⟨0, 0⟩ : api_Span)⟩ : daily_Value), r_1] : List daily_Value).map enc_daily_Value) (vs := [(0, .agg #[.bool r.Known, .int .i64 r.Flow.Lo, .int .i64 r.Flow.Hi]), (1, .agg #[.bool false, .int .i64 0, .int .i64 0]), (2, .agg #[.bool false, .int .i64 0, .int .i64 0]), (3, .agg #[.bool r_1.Known, .int .i64 r_1.Flow.Lo, .int .i64 r_1.Flow.Hi])]) hf hc rfl rfl sl_22 rfl ⟨rfl, rfl, rfl, rfl, rfl, rfl, rfl, rfl, rfl, rfl, rfl, rfl, trivial⟩ rfl rfl fun b_2 a w hf hc => ?_
  refine stP hf rfl rfl rfl (pBuildS (cells := [.int .i64 10, .int .i64 5, .slice (some ⟨b_2, 0, none⟩) 4 4]) bt_24 rfl rfl) fun a hf => ?_
  refine stSt (vs := [.int .i64 10, .int .i64 5, .slice (some ⟨b_2, 0, none⟩) 4 4]) hf hc rfl rfl rfl rfl sz_24 rfl rfl u1 fun w hc => ?_
  refine cNil ?_
  refine h2 _ _ ?_
  refine wp_ret ?_
  obtain rfl := Option.some.inj hF
  exact fnOut1 (by simp) rfl Try.results58 hf hc (rv_cellN (vs := [.int .i64 10, .int .i64 5, .slice (some ⟨b_2, 0, none⟩) 4 4]) ag_24 rfl rfl (cells_box (n := 3) m1 rfl)) ⟨(some ⟨b_2, 0, none⟩), 4, rfl, (hc.drop k1)⟩

def daily_both  : Unit :=
  ()
theorem daily_both_ok {G : Pers} {Lf : List Ent} {w : World}    (hc : Ctx G (Lf) w) {res : Unit} (hF : daily_both = res) : Calls Try.prog 62 #[] w (fun e w => e = .returned (.agg #[.func (.func 96) #[] #[], .func (.func 97) #[] #[]]) ∧ Ctx G (Lf) w) := by
  unfold daily_both at hF
  refine fnIn (args := []) Try.func62 rfl Try.ntmps62 rfl fun a hf => ?_
  refine wp_seq_k fun K1 h1 => ?_
  refine cReg ?_
  refine stAl (cs := [.nilFunc, .nilFunc]) hf hc rfl rfl zr_124 rfl fun b_1 a w hf hc => ?_
  refine cNil ?_
  refine h1 _ _ ?_
  refine wp_seq_k fun K2 h2 => ?_
  refine cReg ?_
  refine stP hf rfl rfl rfl (pBuildS (cells := [.func (.func 96) #[] #[]]) bt_123 rfl rfl) fun a hf => ?_
  refine stP hf rfl rfl rfl (pBuildS (cells := [.func (.func 97) #[] #[]]) bt_123 rfl rfl) fun a hf => ?_
  refine stP hf rfl rfl rfl (pBuild (cells := [.func (.func 96) #[] #[], .func (.func 97) #[] #[]]) rfl (by rfl)) fun a hf => ?_
  refine stSt (vs := [.func (.func 96) #[] #[], .func (.func 97) #[] #[]]) hf hc rfl rfl rfl rfl sz_124 rfl rfl u0 fun w hc => ?_
  refine cNil ?_
  refine h2 _ _ ?_
  refine wp_ret ?_
  obtain rfl := hF
  exact fnOut1 (by simp) rfl Try.results62 hf hc (rv_cellN (vs := [.func (.func 96) #[] #[], .func (.func 97) #[] #[]]) ag_124 rfl rfl (cells_box (n := 2) m0 rfl)) ⟨rfl, (hc.drop k0)⟩

def daily_both_1 (s_ : api_Span) : Int :=
  s_.Lo
theorem daily_both_1_ok {G : Pers} {Lf : List Ent} {w : World} (s_ : api_Span)   (hc : Ctx G (Lf) w) {res : Int} (hF : daily_both_1 s_ = res) : Calls Try.prog 96 #[.agg #[.int .i64 s_.Lo, .int .i64 s_.Hi]] w (fun e w => e = .returned (.int .i64 res) ∧ Ctx G (Lf) w) := by
  unfold daily_both_1 at hF
  refine fnIn (args := [.agg #[.int .i64 s_.Lo, .int .i64 s_.Hi]]) Try.func96 rfl Try.ntmps96 rfl fun a hf => ?_
  refine wp_seq_k fun K1 h1 => ?_
  refine cReg ?_
  refine stBx (cs := [.int .i64 s_.Lo, .int .i64 s_.Hi]) hf hc rfl rfl rfl rfl fun b_1 a w hf hc => ?_
  refine stP hf rfl rfl rfl (pA rfl) fun a hf => ?_
  refine cNil ?_
  refine h1 _ _ ?_
  refine wp_seq_k fun K2 h2 => ?_
  refine cReg ?_
  refine stP hf rfl rfl rfl (pFA fa_30_0 rfl) fun a hf => ?_
  refine stE hf hc rfl rfl rfl (eLd1 sc_3 rfl (cell_box m0 rfl)) fun a w hf hc => ?_
  refine stP hf rfl rfl rfl (pA rfl) fun a hf => ?_
  refine cNil ?_
  refine h2 _ _ ?_
  refine wp_ret ?_
  obtain rfl := hF
  replace hc := hc.drop k0
  exact fnOut1 (by simp) rfl Try.results96 hf hc (show look _ 2 = _ from rfl) ⟨rfl, hc⟩

def daily_ends_b5 (N : Nat) (l : List api_Span) (out : List Int) (x : Int) : Option (Step ((List Int) × Int) ((List Int))) :=
  cond (decide (x < ((l.length : Nat) : Int)))
  (Option.bind (getI l x) fun e_1 =>
  Option.bind (room ((out ++ [(daily_both_1 e_1)])).length) fun un =>
  some (.cont ((out ++ [(daily_both_1 e_1)]), W (x + 1))))
  (some (.brk (out, x)))
def daily_ends (N : Nat) (l : List api_Span) : Option ((List Int)) :=
  Option.bind (loopO (fun s5 => daily_ends_b5 N l s5.1 s5.2) N (([] : List Int), 0)) fun x5 =>
  exK x5 (fun s5 => some s5.1) some
theorem daily_ends_ok {N : Nat} {G : Pers} {Lf : List Ent} {w : World} (l : List api_Span) {l_p : Option Addr} {l_c : Nat} (h_l : Rd G 2 l_p l_c (l.map enc_api_Span)) (hc : Ctx G (Lf) w) {res : (List Int)} (hF : daily_ends N l = some res) : Calls Try.prog 64 #[.slice l_p l.length l_c, .agg #[.func (.func 96) #[] #[]]] w (fun e w => ∃ (p'1 : Option Addr) (c'1 : Nat), e = .returned (.slice p'1 res.length c'1) ∧ Ctx G (.row p'1 c'1 (res.map encI_i64) 3 1 :: Lf) w) := by
  unfold daily_ends at hF
  refine fnIn (args := [.slice l_p l.length l_c, .agg #[.func (.func 96) #[] #[]]]) Try.func64 rfl Try.ntmps64 rfl fun a hf => ?_
  refine wp_seq_k fun K1 h1 => ?_
  refine cReg ?_
  refine stBx (cs := [.func (.func 96) #[] #[]]) hf hc rfl rfl rfl rfl fun b_1 a w hf hc => ?_
  refine stP hf rfl rfl rfl (pA rfl) fun a hf => ?_
  refine cNil ?_
  refine h1 _ _ ?_
  refine wp_seq_k fun K2 h2 => ?_
  refine cReg ?_
  refine stP hf rfl rfl rfl (pA rfl) fun a hf => ?_
  refine cNil ?_
  refine h2 _ _ ?_
  refine wp_seq_k fun K3 h3 => ?_
  refine wp_seq_k fun K4 h4 => ?_
  refine cReg ?_
  refine stP hf rfl rfl rfl (pM rfl) fun a hf => ?_
  refine stP hf rfl rfl rfl (pLenS Try.underlying25 rfl) fun a hf => ?_
  refine stP hf rfl rfl rfl (pM rfl) fun a hf => ?_
  refine cNil ?_
  refine h4 _ _ ?_
  refine wp_block ?_
  obtain ⟨x5, hx5, hF⟩ := bnd_some hF
  let S5 : ((List Int) × Int) → Act → World → Prop := (fun (zz : (List Int) × Int) a w => ∃ (p_1 : Option Addr) (c_1 : Nat), Has 23 a [(3, .pointer (some ⟨b_1, 0, none⟩)), (5, .slice p_1 zz.1.length c_1), (8, .slice l_p l.length l_c), (9, .int .i64 ((l.length : Nat) : Int)), (10, .int .i64 zz.2)] ∧ Ctx G (.row p_1 c_1 (zz.1.map encI_i64) 3 1 :: .box b_1 [.func (.func 96) #[] #[]] 123 :: Lf) w)
  have hr5 : ∀ (zz : (List Int) × Int) a w, x5 = .go zz → S5 zz a w → K3 a w := by
    rintro ⟨out, x⟩ a w rfl ⟨p_1, c_1, hf, hc⟩
    replace hF := exK_go hF
    refine h3 _ _ ?_
    refine wp_seq_k fun K6 h6 => ?_
    refine cReg ?_
    refine stP hf rfl rfl rfl (pM rfl) fun a hf => ?_
    refine stP hf rfl rfl rfl (pA rfl) fun a hf => ?_
    refine cNil ?_
    refine h6 _ _ ?_
    refine wp_ret ?_
    obtain rfl := Option.some.inj hF
    replace hc := hc.drop k1
    exact fnOut1 (by simp) rfl Try.results64 hf hc (show look _ 4 = _ from rfl) ⟨p_1, c_1, rfl, hc⟩
  have ho5 : ∀ r, x5 = .out r → r = res := by
    rintro r rfl
    exact Option.some.inj hF
  replace hc := hc.nilRow 3 1
  refine cLoop N (loopW (S := S5) (x := x5) ?_ N (([] : List Int), 0) _ _ ⟨none, 0, hf.keep ⟨rfl, rfl, rfl, rfl, rfl, trivial⟩, hc⟩ hx5)
  clear hF hf hc
  rintro ⟨out, x⟩ st5 a w KB5 ⟨p_1, c_1, hf, hc⟩ hF hfin5 hK5
  unfold daily_ends_b5 at hF
  refine wp_seq_k fun K7 h7 => ?_
  refine cReg ?_
  refine stP hf rfl rfl rfl (pLt rfl rfl) fun a hf => ?_
  refine cNil ?_
  refine h7 _ _ ?_
  refine wp_seq_k fun K8 h8 => ?_
  refine cCond (b := (decide (x < ((l.length : Nat) : Int)))) hf rfl (fun hb => ?_) (fun hb => ?_)
  · replace hF := condT hb hF
    clear hb
    refine wp_skip ?_
    refine h8 _ _ ?_
    refine wp_seq_k fun K9 h9 => ?_
    refine wp_block ?_
    refine wp_seq_k fun K10 h10 => ?_
    refine cReg ?_
    obtain ⟨e_1, he_1, hF⟩ := bnd_some hF
    obtain ⟨b_2, o, qa, qp⟩ := h_l.atm he_1
    refine stP hf rfl rfl rfl (pIA Try.underlying25 sz_30 rfl rfl qa) fun a hf => ?_
    refine stE hf hc rfl rfl rfl (eLdN (vs := [.int .i64 e_1.Lo, .int .i64 e_1.Hi]) ag_30 rfl rfl (cells_pc qp (n := 2) (o' := 0) rfl)) fun a w hf hc => ?_
    refine stAl (cs := [.int .i64 0, .int .i64 0]) hf hc rfl rfl zr_30 rfl fun b_3 a w hf hc => ?_
    refine stSt (vs := [.int .i64 e_1.Lo, .int .i64 e_1.Hi]) hf hc rfl rfl rfl rfl sz_30 rfl rfl u0 fun w hc => ?_
    refine cNil ?_
    refine h10 _ _ ?_
    refine cReg ?_
    refine stP hf rfl rfl rfl (pM rfl) fun a hf => ?_
    refine stP hf rfl rfl rfl (pFA fa_123_0 rfl) fun a hf => ?_
    refine stE hf hc rfl rfl rfl (eLd1 sc_121 rfl (cell_box m2 rfl)) fun a w hf hc => ?_
    refine stE hf hc rfl rfl rfl (eLdN (vs := [.int .i64 e_1.Lo, .int .i64 e_1.Hi]) ag_30 rfl rfl (cells_box (n := 2) m0 rfl)) fun a w hf hc => ?_
    refine stE hf hc rfl rfl rfl (eC (v := .int .i64 (daily_both_1 e_1)) (vs := [.agg #[.int .i64 e_1.Lo, .int .i64 e_1.Hi]]) (caps := []) en_96 rfl rfl rfl rfl (fun w hc => daily_both_1_ok e_1 hc rfl)) fun a w hf hc => ?_
    refine stBS (rows := ([(daily_both_1 e_1)] : List Int).map encI_i64) (vs := [(0, .int .i64 (daily_both_1 e_1))]) hf hc rfl rfl sl_39 rfl ⟨rfl, rfl, rfl, trivial⟩ rfl rfl fun b_4 a w hf hc => ?_
    obtain ⟨un, hun, hF⟩ := bnd_some hF
    refine stApm (xs := out) (ys := ([(daily_both_1 e_1)] : List Int)) hf hc rfl rfl sl_39 rfl rfl rfl rfl rfl one_encI_i64 (src_row hc m0) (fun _ _ => u2) (by simpa using room_spec hun) fun p_2 c_2 a w hf hc => ?_
    refine stP hf rfl rfl rfl (pA rfl) fun a hf => ?_
    refine cNil ?_
    refine h9 _ _ ?_
    refine cReg ?_
    refine stP hf rfl rfl rfl (pAdd rfl rfl) fun a hf => ?_
    refine stP hf rfl rfl rfl (pM rfl) fun a hf => ?_
    refine cNil ?_
    replace hc := hc.drop k1
    replace hc := hc.drop k0
    exact hK5 ((out ++ [(daily_both_1 e_1)]), W (x + 1)) _ _ (Option.some.inj hF).symm ⟨p_2, c_2, hf.keep ⟨rfl, rfl, rfl, rfl, rfl, trivial⟩, hc⟩
  · replace hF := condF hb hF
    clear hb
    refine wp_exit ?_
    refine xThen ?_
    refine xThen ?_
    have he := Option.some.inj hF
    rw [← he] at hfin5
    refine cHit ?_
    exact hr5 _ _ _ hfin5 ⟨p_1, c_1, hf.keep ⟨rfl, rfl, rfl, rfl, rfl, trivial⟩, hc⟩

def daily_sum_b5 (N : Nat) (l : List Int) (out : Int) (x : Int) : Option (Step (Int × Int) (Int)) :=
  cond (decide (x < ((l.length : Nat) : Int)))
  (Option.bind (getI l x) fun e_1 =>
  some (.cont (W (out + e_1), W (x + 1))))
  (some (.brk (out, x)))
def daily_sum (N : Nat) (l : List Int) : Option (Int) :=
  Option.bind (loopO (fun s5 => daily_sum_b5 N l s5.1 s5.2) N (0, 0)) fun x5 =>
  exK x5 (fun s5 => some s5.1) some
theorem daily_sum_ok {N : Nat} {G : Pers} {Lf : List Ent} {w : World} (l : List Int) {l_p : Option Addr} {l_c : Nat} (h_l : Rd G 1 l_p l_c (l.map encI_i64)) (hc : Ctx G (Lf) w) {res : Int} (hF : daily_sum N l = some res) : Calls Try.prog 63 #[.slice l_p l.length l_c] w (fun e w => e = .returned (.int .i64 res) ∧ Ctx G (Lf) w) := by
  unfold daily_sum at hF
  refine fnIn (args := [.slice l_p l.length l_c]) Try.func63 rfl Try.ntmps63 rfl fun a hf => ?_
  refine wp_seq_k fun K1 h1 => ?_
  refine cReg ?_
  refine stP hf rfl rfl rfl (pA rfl) fun a hf => ?_
  refine cNil ?_
  refine h1 _ _ ?_
  refine wp_seq_k fun K2 h2 => ?_
  refine cReg ?_
  refine stP hf rfl rfl rfl (pA rfl) fun a hf => ?_
  refine cNil ?_
  refine h2 _ _ ?_
  refine wp_seq_k fun K3 h3 => ?_
  refine wp_seq_k fun K4 h4 => ?_
  refine cReg ?_
  refine stP hf rfl rfl rfl (pM rfl) fun a hf => ?_
  refine stP hf rfl rfl rfl (pLenS Try.underlying39 rfl) fun a hf => ?_
  refine stP hf rfl rfl rfl (pM rfl) fun a hf => ?_
  refine cNil ?_
  refine h4 _ _ ?_
  refine wp_block ?_
  obtain ⟨x5, hx5, hF⟩ := bnd_some hF
  let S5 : (Int × Int) → Act → World → Prop := (fun (zz : Int × Int) a w => Has 17 a [(3, .int .i64 zz.1), (6, .slice l_p l.length l_c), (7, .int .i64 ((l.length : Nat) : Int)), (8, .int .i64 zz.2)] ∧ Ctx G (Lf) w)
  have hr5 : ∀ (zz : Int × Int) a w, x5 = .go zz → S5 zz a w → K3 a w := by
    rintro ⟨out, x⟩ a w rfl ⟨hf, hc⟩
    replace hF := exK_go hF
    refine h3 _ _ ?_
    refine wp_seq_k fun K6 h6 => ?_
    refine cReg ?_
    refine stP hf rfl rfl rfl (pM rfl) fun a hf => ?_
    refine stP hf rfl rfl rfl (pA rfl) fun a hf => ?_
    refine cNil ?_
    refine h6 _ _ ?_
    refine wp_ret ?_
    obtain rfl := Option.some.inj hF
    exact fnOut1 (by simp) rfl Try.results63 hf hc (show look _ 2 = _ from rfl) ⟨rfl, hc⟩
  have ho5 : ∀ r, x5 = .out r → r = res := by
    rintro r rfl
    exact Option.some.inj hF
  refine cLoop N (loopW (S := S5) (x := x5) ?_ N (0, 0) _ _ ⟨hf.keep ⟨rfl, rfl, rfl, rfl, trivial⟩, hc⟩ hx5)
  clear hF hf hc
  rintro ⟨out, x⟩ st5 a w KB5 ⟨hf, hc⟩ hF hfin5 hK5
  unfold daily_sum_b5 at hF
  refine wp_seq_k fun K7 h7 => ?_
  refine cReg ?_
  refine stP hf rfl rfl rfl (pLt rfl rfl) fun a hf => ?_
  refine cNil ?_
  refine h7 _ _ ?_
  refine wp_seq_k fun K8 h8 => ?_
  refine cCond (b := (decide (x < ((l.length : Nat) : Int)))) hf rfl (fun hb => ?_) (fun hb => ?_)
  · replace hF := condT hb hF
    clear hb
    refine wp_skip ?_
    refine h8 _ _ ?_
    refine wp_seq_k fun K9 h9 => ?_
    refine wp_block ?_
    refine wp_seq_k fun K10 h10 => ?_
    refine cReg ?_
    obtain ⟨e_1, he_1, hF⟩ := bnd_some hF
    obtain ⟨b_1, o, qa, qp⟩ := h_l.atm he_1
    refine stP hf rfl rfl rfl (pIA Try.underlying39 sz_3 rfl rfl qa) fun a hf => ?_
    refine stE hf hc rfl rfl rfl (eLd1 sc_3 rfl (cell_pc (j := 0) qp rfl)) fun a w hf hc => ?_
    refine stP hf rfl rfl rfl (pA rfl) fun a hf => ?_
    refine cNil ?_
    refine h10 _ _ ?_
    refine cReg ?_
    refine stP hf rfl rfl rfl (pM rfl) fun a hf => ?_
    refine stP hf rfl rfl rfl (pM rfl) fun a hf => ?_
    refine stP hf rfl rfl rfl (pAdd rfl rfl) fun a hf => ?_
    refine stP hf rfl rfl rfl (pA rfl) fun a hf => ?_
    refine cNil ?_
    refine h9 _ _ ?_
    refine cReg ?_
    refine stP hf rfl rfl rfl (pAdd rfl rfl) fun a hf => ?_
    refine stP hf rfl rfl rfl (pM rfl) fun a hf => ?_
    refine cNil ?_
    exact hK5 (W (out + e_1), W (x + 1)) _ _ (Option.some.inj hF).symm ⟨hf.keep ⟨rfl, rfl, rfl, rfl, trivial⟩, hc⟩
  · replace hF := condF hb hF
    clear hb
    refine wp_exit ?_
    refine xThen ?_
    refine xThen ?_
    have he := Option.some.inj hF
    rw [← he] at hfin5
    refine cHit ?_
    exact hr5 _ _ _ hfin5 ⟨hf.keep ⟨rfl, rfl, rfl, rfl, trivial⟩, hc⟩

def daily_both_2 (s_ : api_Span) : Int :=
  s_.Hi
theorem daily_both_2_ok {G : Pers} {Lf : List Ent} {w : World} (s_ : api_Span)   (hc : Ctx G (Lf) w) {res : Int} (hF : daily_both_2 s_ = res) : Calls Try.prog 97 #[.agg #[.int .i64 s_.Lo, .int .i64 s_.Hi]] w (fun e w => e = .returned (.int .i64 res) ∧ Ctx G (Lf) w) := by
  unfold daily_both_2 at hF
  refine fnIn (args := [.agg #[.int .i64 s_.Lo, .int .i64 s_.Hi]]) Try.func97 rfl Try.ntmps97 rfl fun a hf => ?_
  refine wp_seq_k fun K1 h1 => ?_
  refine cReg ?_
  refine stBx (cs := [.int .i64 s_.Lo, .int .i64 s_.Hi]) hf hc rfl rfl rfl rfl fun b_1 a w hf hc => ?_
  refine stP hf rfl rfl rfl (pA rfl) fun a hf => ?_
  refine cNil ?_
  refine h1 _ _ ?_
  refine wp_seq_k fun K2 h2 => ?_
  refine cReg ?_
  refine stP hf rfl rfl rfl (pFA fa_30_1 rfl) fun a hf => ?_
  refine stE hf hc rfl rfl rfl (eLd1 sc_3 rfl (cell_box m0 rfl)) fun a w hf hc => ?_
  refine stP hf rfl rfl rfl (pA rfl) fun a hf => ?_
  refine cNil ?_
  refine h2 _ _ ?_
  refine wp_ret ?_
  obtain rfl := hF
  replace hc := hc.drop k0
  exact fnOut1 (by simp) rfl Try.results97 hf hc (show look _ 2 = _ from rfl) ⟨rfl, hc⟩

def daily_ends_s2_b5 (N : Nat) (l : List api_Span) (out : List Int) (x : Int) : Option (Step ((List Int) × Int) ((List Int))) :=
  cond (decide (x < ((l.length : Nat) : Int)))
  (Option.bind (getI l x) fun e_1 =>
  Option.bind (room ((out ++ [(daily_both_2 e_1)])).length) fun un =>
  some (.cont ((out ++ [(daily_both_2 e_1)]), W (x + 1))))
  (some (.brk (out, x)))
def daily_ends_s2 (N : Nat) (l : List api_Span) : Option ((List Int)) :=
  Option.bind (loopO (fun s5 => daily_ends_s2_b5 N l s5.1 s5.2) N (([] : List Int), 0)) fun x5 =>
  exK x5 (fun s5 => some s5.1) some
theorem daily_ends_s2_ok {N : Nat} {G : Pers} {Lf : List Ent} {w : World} (l : List api_Span) {l_p : Option Addr} {l_c : Nat} (h_l : Rd G 2 l_p l_c (l.map enc_api_Span)) (hc : Ctx G (Lf) w) {res : (List Int)} (hF : daily_ends_s2 N l = some res) : Calls Try.prog 64 #[.slice l_p l.length l_c, .agg #[.func (.func 97) #[] #[]]] w (fun e w => ∃ (p'1 : Option Addr) (c'1 : Nat), e = .returned (.slice p'1 res.length c'1) ∧ Ctx G (.row p'1 c'1 (res.map encI_i64) 3 1 :: Lf) w) := by
  unfold daily_ends_s2 at hF
  refine fnIn (args := [.slice l_p l.length l_c, .agg #[.func (.func 97) #[] #[]]]) Try.func64 rfl Try.ntmps64 rfl fun a hf => ?_
  refine wp_seq_k fun K1 h1 => ?_
  refine cReg ?_
  refine stBx (cs := [.func (.func 97) #[] #[]]) hf hc rfl rfl rfl rfl fun b_1 a w hf hc => ?_
  refine stP hf rfl rfl rfl (pA rfl) fun a hf => ?_
  refine cNil ?_
  refine h1 _ _ ?_
  refine wp_seq_k fun K2 h2 => ?_
  refine cReg ?_
  refine stP hf rfl rfl rfl (pA rfl) fun a hf => ?_
  refine cNil ?_
  refine h2 _ _ ?_
  refine wp_seq_k fun K3 h3 => ?_
  refine wp_seq_k fun K4 h4 => ?_
  refine cReg ?_
  refine stP hf rfl rfl rfl (pM rfl) fun a hf => ?_
  refine stP hf rfl rfl rfl (pLenS Try.underlying25 rfl) fun a hf => ?_
  refine stP hf rfl rfl rfl (pM rfl) fun a hf => ?_
  refine cNil ?_
  refine h4 _ _ ?_
  refine wp_block ?_
  obtain ⟨x5, hx5, hF⟩ := bnd_some hF
  let S5 : ((List Int) × Int) → Act → World → Prop := (fun (zz : (List Int) × Int) a w => ∃ (p_1 : Option Addr) (c_1 : Nat), Has 23 a [(3, .pointer (some ⟨b_1, 0, none⟩)), (5, .slice p_1 zz.1.length c_1), (8, .slice l_p l.length l_c), (9, .int .i64 ((l.length : Nat) : Int)), (10, .int .i64 zz.2)] ∧ Ctx G (.row p_1 c_1 (zz.1.map encI_i64) 3 1 :: .box b_1 [.func (.func 97) #[] #[]] 123 :: Lf) w)
  have hr5 : ∀ (zz : (List Int) × Int) a w, x5 = .go zz → S5 zz a w → K3 a w := by
    rintro ⟨out, x⟩ a w rfl ⟨p_1, c_1, hf, hc⟩
    replace hF := exK_go hF
    refine h3 _ _ ?_
    refine wp_seq_k fun K6 h6 => ?_
    refine cReg ?_
    refine stP hf rfl rfl rfl (pM rfl) fun a hf => ?_
    refine stP hf rfl rfl rfl (pA rfl) fun a hf => ?_
    refine cNil ?_
    refine h6 _ _ ?_
    refine wp_ret ?_
    obtain rfl := Option.some.inj hF
    replace hc := hc.drop k1
    exact fnOut1 (by simp) rfl Try.results64 hf hc (show look _ 4 = _ from rfl) ⟨p_1, c_1, rfl, hc⟩
  have ho5 : ∀ r, x5 = .out r → r = res := by
    rintro r rfl
    exact Option.some.inj hF
  replace hc := hc.nilRow 3 1
  refine cLoop N (loopW (S := S5) (x := x5) ?_ N (([] : List Int), 0) _ _ ⟨none, 0, hf.keep ⟨rfl, rfl, rfl, rfl, rfl, trivial⟩, hc⟩ hx5)
  clear hF hf hc
  rintro ⟨out, x⟩ st5 a w KB5 ⟨p_1, c_1, hf, hc⟩ hF hfin5 hK5
  unfold daily_ends_s2_b5 at hF
  refine wp_seq_k fun K7 h7 => ?_
  refine cReg ?_
  refine stP hf rfl rfl rfl (pLt rfl rfl) fun a hf => ?_
  refine cNil ?_
  refine h7 _ _ ?_
  refine wp_seq_k fun K8 h8 => ?_
  refine cCond (b := (decide (x < ((l.length : Nat) : Int)))) hf rfl (fun hb => ?_) (fun hb => ?_)
  · replace hF := condT hb hF
    clear hb
    refine wp_skip ?_
    refine h8 _ _ ?_
    refine wp_seq_k fun K9 h9 => ?_
    refine wp_block ?_
    refine wp_seq_k fun K10 h10 => ?_
    refine cReg ?_
    obtain ⟨e_1, he_1, hF⟩ := bnd_some hF
    obtain ⟨b_2, o, qa, qp⟩ := h_l.atm he_1
    refine stP hf rfl rfl rfl (pIA Try.underlying25 sz_30 rfl rfl qa) fun a hf => ?_
    refine stE hf hc rfl rfl rfl (eLdN (vs := [.int .i64 e_1.Lo, .int .i64 e_1.Hi]) ag_30 rfl rfl (cells_pc qp (n := 2) (o' := 0) rfl)) fun a w hf hc => ?_
    refine stAl (cs := [.int .i64 0, .int .i64 0]) hf hc rfl rfl zr_30 rfl fun b_3 a w hf hc => ?_
    refine stSt (vs := [.int .i64 e_1.Lo, .int .i64 e_1.Hi]) hf hc rfl rfl rfl rfl sz_30 rfl rfl u0 fun w hc => ?_
    refine cNil ?_
    refine h10 _ _ ?_
    refine cReg ?_
    refine stP hf rfl rfl rfl (pM rfl) fun a hf => ?_
    refine stP hf rfl rfl rfl (pFA fa_123_0 rfl) fun a hf => ?_
    refine stE hf hc rfl rfl rfl (eLd1 sc_121 rfl (cell_box m2 rfl)) fun a w hf hc => ?_
    refine stE hf hc rfl rfl rfl (eLdN (vs := [.int .i64 e_1.Lo, .int .i64 e_1.Hi]) ag_30 rfl rfl (cells_box (n := 2) m0 rfl)) fun a w hf hc => ?_
    refine stE hf hc rfl rfl rfl (eC (v := .int .i64 (daily_both_2 e_1)) (vs := [.agg #[.int .i64 e_1.Lo, .int .i64 e_1.Hi]]) (caps := []) en_97 rfl rfl rfl rfl (fun w hc => daily_both_2_ok e_1 hc rfl)) fun a w hf hc => ?_
    refine stBS (rows := ([(daily_both_2 e_1)] : List Int).map encI_i64) (vs := [(0, .int .i64 (daily_both_2 e_1))]) hf hc rfl rfl sl_39 rfl ⟨rfl, rfl, rfl, trivial⟩ rfl rfl fun b_4 a w hf hc => ?_
    obtain ⟨un, hun, hF⟩ := bnd_some hF
    refine stApm (xs := out) (ys := ([(daily_both_2 e_1)] : List Int)) hf hc rfl rfl sl_39 rfl rfl rfl rfl rfl one_encI_i64 (src_row hc m0) (fun _ _ => u2) (by simpa using room_spec hun) fun p_2 c_2 a w hf hc => ?_
    refine stP hf rfl rfl rfl (pA rfl) fun a hf => ?_
    refine cNil ?_
    refine h9 _ _ ?_
    refine cReg ?_
    refine stP hf rfl rfl rfl (pAdd rfl rfl) fun a hf => ?_
    refine stP hf rfl rfl rfl (pM rfl) fun a hf => ?_
    refine cNil ?_
    replace hc := hc.drop k1
    replace hc := hc.drop k0
    exact hK5 ((out ++ [(daily_both_2 e_1)]), W (x + 1)) _ _ (Option.some.inj hF).symm ⟨p_2, c_2, hf.keep ⟨rfl, rfl, rfl, rfl, rfl, trivial⟩, hc⟩
  · replace hF := condF hb hF
    clear hb
    refine wp_exit ?_
    refine xThen ?_
    refine xThen ?_
    have he := Option.some.inj hF
    rw [← he] at hfin5
    refine cHit ?_
    exact hr5 _ _ _ hfin5 ⟨p_1, c_1, hf.keep ⟨rfl, rfl, rfl, rfl, rfl, trivial⟩, hc⟩

def daily_Volume (N : Nat) (r : daily_Record) (from_ : Int) (to_ : Int) : Option (api_Span × Int) :=
  Option.bind (daily_Check N r) fun r_0 =>
  cond (r_0 != 0)
  (some ((⟨0, 0⟩ : api_Span), r_0))
  (cond ((!(daily_in from_ 0 to_)) || (decide (((r.Days.length : Nat) : Int) ≤ to_)))
  (some ((⟨0, 0⟩ : api_Span), 2))
  (Option.bind (daily_agreed N r) (sumK (fun r_1 => cond (r_1 != 0)
  (some ((⟨0, 0⟩ : api_Span), r_1))
  (none))
  (fun r_2 => cond (r_2.2.2.2 != 0)
  (some ((⟨0, 0⟩ : api_Span), r_2.2.2.2))
  (Option.bind (subO r_2.2.2.1 from_ (W (to_ + 1))) fun sub =>
  Option.bind (daily_ends N sub) fun r_3 =>
  Option.bind (daily_sum N r_3) fun r_4 =>
  Option.bind (daily_ends_s2 N sub) fun r_5 =>
  Option.bind (daily_sum N r_5) fun r_6 =>
  some ((⟨r_4, r_6⟩ : api_Span), 0))))))
theorem daily_Volume_ok {N : Nat} {G : Pers} {Lf : List Ent} {w : World} (r : daily_Record) (from_ : Int) (to_ : Int) {r_Days_p : Option Addr} {r_Days_c : Nat} (h_r_Days : Rd G 3 r_Days_p r_Days_c (r.Days.map enc_daily_Value)) (hc : Ctx G (Lf) w) {res : api_Span × Int} (hF : daily_Volume N r from_ to_ = some res) : Calls Try.prog 15 #[.agg #[.int .i64 r.Rise, .int .i64 r.Fall, .slice r_Days_p r.Days.length r_Days_c], .int .i64 from_, .int .i64 to_] w (fun e w => e = .returned (.tuple #[.agg #[.int .i64 res.1.Lo, .int .i64 res.1.Hi], .int .i64 res.2]) ∧ Ctx G (Lf) w) := by
  unfold daily_Volume at hF
  refine fnIn (args := [.agg #[.int .i64 r.Rise, .int .i64 r.Fall, .slice r_Days_p r.Days.length r_Days_c], .int .i64 from_, .int .i64 to_]) Try.func15 rfl Try.ntmps15 rfl fun a hf => ?_
  refine wp_seq_k fun K1 h1 => ?_
  refine cReg ?_
  refine stBx (cs := [.int .i64 r.Rise, .int .i64 r.Fall, .slice r_Days_p r.Days.length r_Days_c]) hf hc rfl rfl rfl rfl fun b_1 a w hf hc => ?_
  refine stAl (cs := [.int .i64 0, .int .i64 0]) hf hc rfl rfl zr_30 rfl fun b_2 a w hf hc => ?_
  refine stP hf rfl rfl rfl (pA rfl) fun a hf => ?_
  refine cNil ?_
  refine h1 _ _ ?_
  refine wp_seq_k fun K2 h2 => ?_
  refine wp_seq_k fun K3 h3 => ?_
  refine cReg ?_
  refine stE hf hc rfl rfl rfl (eLdN (vs := [.int .i64 r.Rise, .int .i64 r.Fall, .slice r_Days_p r.Days.length r_Days_c]) ag_24 rfl rfl (cells_box (n := 3) m1 rfl)) fun a w hf hc => ?_
  obtain ⟨r_0, hr_0, hF⟩ := bnd_some hF
  refine stE hf hc rfl rfl rfl (eC (v := .int .i64 r_0) (vs := [.agg #[.int .i64 r.Rise, .int .i64 r.Fall, .slice r_Days_p r.Days.length r_Days_c]]) (caps := []) en_34 rfl rfl rfl rfl (fun w hc => daily_Check_ok r h_r_Days hc hr_0)) fun a w hf hc => ?_
  refine stP hf rfl rfl rfl (pA rfl) fun a hf => ?_
  refine cNil ?_
  refine h3 _ _ ?_
  refine wp_seq_k fun K4 h4 => ?_
  refine cReg ?_
  refine stP hf rfl rfl rfl (pM rfl) fun a hf => ?_
  refine stP hf rfl rfl rfl (pNe rfl rfl) fun a hf => ?_
  refine cNil ?_
  refine h4 _ _ ?_
  refine cCond (b := (r_0 != 0)) hf rfl (fun hb => ?_) (fun hb => ?_)
  · replace hF := condT hb hF
    clear hb
    refine wp_seq_k fun K5 h5 => ?_
    refine cReg ?_
    refine stP hf rfl rfl rfl (pBuildS (cells := [.int .i64 0, .int .i64 0]) bt_30 rfl rfl) fun a hf => ?_
    refine stP hf rfl rfl rfl (pM rfl) fun a hf => ?_
    refine stSt (vs := [.int .i64 0, .int .i64 0]) hf hc rfl rfl rfl rfl sz_30 rfl rfl u0 fun w hc => ?_
    refine stP hf rfl rfl rfl (pA rfl) fun a hf => ?_
    refine cNil ?_
    refine h5 _ _ ?_
    refine wp_ret ?_
    refine xThenR ?_
    obtain rfl := Option.some.inj hF
    replace hc := hc.drop k1
    exact fnOut2 (by simp) rfl Try.results15 hf hc (rv_cellN (vs := [.int .i64 0, .int .i64 0]) ag_30 rfl rfl (cells_box (n := 2) m0 rfl)) (show look _ 7 = _ from rfl) ⟨rfl, (hc.drop k0)⟩
  · replace hF := condF hb hF
    clear hb
    refine wp_skip ?_
    refine h2 _ _ ?_
    refine wp_seq_k fun K6 h6 => ?_
    refine wp_seq_k fun K7 h7 => ?_
    refine cReg ?_
    refine stP hf rfl rfl rfl (pM rfl) fun a hf => ?_
    refine stP hf rfl rfl rfl (pM rfl) fun a hf => ?_
    refine stE hf hc rfl rfl rfl (eC (v := .bool (daily_in from_ 0 to_)) (vs := [.int .i64 from_, .int .i64 0, .int .i64 to_]) (caps := []) en_60 rfl rfl rfl rfl (fun w hc => daily_in_ok from_ 0 to_ hc rfl)) fun a w hf hc => ?_
    refine stP hf rfl rfl rfl (pNot rfl) fun a hf => ?_
    refine stP hf rfl rfl rfl (pM rfl) fun a hf => ?_
    refine stCut 6 (fun a w => Has 60 a [(1, .int .i64 from_), (2, .int .i64 to_), (3, .pointer (some ⟨b_1, 0, none⟩)), (6, .pointer (some ⟨b_2, 0, none⟩)), (19, .int .i64 from_), (20, .int .i64 to_), (21, .bool (daily_in from_ 0 to_)), (22, .bool (!(daily_in from_ 0 to_))), (23, .bool (!(daily_in from_ 0 to_))), (29, .bool ((!(daily_in from_ 0 to_)) || (decide (((r.Days.length : Nat) : Int) ≤ to_))))] ∧ Ctx G (.box b_2 [.int .i64 0, .int .i64 0] 30 :: .box b_1 [.int .i64 r.Rise, .int .i64 r.Fall, .slice r_Days_p r.Days.length r_Days_c] 24 :: Lf) w) ?_ ?_
    · cases hb : (!(daily_in from_ 0 to_))
      · rw [hb] at hf
        refine stP hf rfl rfl rfl (pM rfl) fun a hf => ?_
        refine stP hf rfl rfl rfl (pFA fa_24_2 rfl) fun a hf => ?_
        refine stE hf hc rfl rfl rfl (eLd1 sc_22 rfl (cell_box m1 rfl)) fun a w hf hc => ?_
        refine stP hf rfl rfl rfl (pLenS Try.underlying22 rfl) fun a hf => ?_
        refine stP hf rfl rfl rfl (pGe rfl rfl) fun a hf => ?_
        refine stP hf rfl rfl rfl (pPf rfl rfl) fun a hf => ?_
        exact cNil ⟨hf.keep ⟨rfl, rfl, rfl, rfl, rfl, rfl, rfl, rfl, rfl, rfl, trivial⟩, hc⟩
      · rw [hb] at hf
        refine stS hf rfl rfl rfl fun a hf => ?_
        refine stS hf rfl rfl rfl fun a hf => ?_
        refine stS hf rfl rfl rfl fun a hf => ?_
        refine stS hf rfl rfl rfl fun a hf => ?_
        refine stS hf rfl rfl rfl fun a hf => ?_
        refine stP hf rfl rfl rfl (pPt rfl rfl) fun a hf => ?_
        exact cNil ⟨hf.keep ⟨rfl, rfl, rfl, rfl, rfl, rfl, rfl, rfl, rfl, rfl, trivial⟩, hc⟩
    intro a w ⟨hf, hc⟩
    refine cNil ?_
    refine h7 _ _ ?_
    refine cCond (b := ((!(daily_in from_ 0 to_)) || (decide (((r.Days.length : Nat) : Int) ≤ to_)))) hf rfl (fun hb => ?_) (fun hb => ?_)
    · replace hF := condT hb hF
      clear hb
      refine wp_seq_k fun K8 h8 => ?_
      refine cReg ?_
      refine stP hf rfl rfl rfl (pBuildS (cells := [.int .i64 0, .int .i64 0]) bt_30 rfl rfl) fun a hf => ?_
      refine stSt (vs := [.int .i64 0, .int .i64 0]) hf hc rfl rfl rfl rfl sz_30 rfl rfl u0 fun w hc => ?_
      refine stP hf rfl rfl rfl (pA rfl) fun a hf => ?_
      refine cNil ?_
      refine h8 _ _ ?_
      refine wp_ret ?_
      refine xThenR ?_
      obtain rfl := Option.some.inj hF
      replace hc := hc.drop k1
      exact fnOut2 (by simp) rfl Try.results15 hf hc (rv_cellN (vs := [.int .i64 0, .int .i64 0]) ag_30 rfl rfl (cells_box (n := 2) m0 rfl)) (show look _ 7 = _ from rfl) ⟨rfl, (hc.drop k0)⟩
    · replace hF := condF hb hF
      clear hb
      refine wp_skip ?_
      refine h6 _ _ ?_
      refine wp_seq_k fun K9 h9 => ?_
      refine cReg ?_
      refine stE hf hc rfl rfl rfl (eLdN (vs := [.int .i64 r.Rise, .int .i64 r.Fall, .slice r_Days_p r.Days.length r_Days_c]) ag_24 rfl rfl (cells_box (n := 3) m1 rfl)) fun a w hf hc => ?_
      obtain ⟨r_1, hr_1, hF⟩ := bnd_some hF
      cases r_1 with
      | inl r_1 =>
        replace hF := sumKl hF
        refine stC (vs := [.agg #[.int .i64 r.Rise, .int .i64 r.Fall, .slice r_Days_p r.Days.length r_Days_c]]) (caps := []) hf rfl rfl rfl en_61 rfl rfl rfl rfl (daily_agreed_ok r h_r_Days hc hr_1) ?_
        rintro _ w ⟨rfl, hc⟩
        refine ⟨_, rfl, fun a hf => ?_⟩
        refine stP hf rfl rfl rfl (pM rfl) fun a hf => ?_
        refine stP hf rfl rfl rfl (pX rfl rfl) fun a hf => ?_
        refine stP hf rfl rfl rfl (pX rfl rfl) fun a hf => ?_
        refine stP hf rfl rfl rfl (pA rfl) fun a hf => ?_
        refine stP hf rfl rfl rfl (pA rfl) fun a hf => ?_
        refine cNil ?_
        refine h9 _ _ ?_
        refine wp_seq_k fun K10 h10 => ?_
        refine wp_seq_k fun K11 h11 => ?_
        refine cReg ?_
        refine stP hf rfl rfl rfl (pM rfl) fun a hf => ?_
        refine stP hf rfl rfl rfl (pNe rfl rfl) fun a hf => ?_
        refine cNil ?_
        refine h11 _ _ ?_
        refine cCond (b := (r_1 != 0)) hf rfl (fun hb => ?_) (fun hb => ?_)
        · replace hF := condT hb hF
          clear hb
          refine wp_seq_k fun K12 h12 => ?_
          refine cReg ?_
          refine stP hf rfl rfl rfl (pBuildS (cells := [.int .i64 0, .int .i64 0]) bt_30 rfl rfl) fun a hf => ?_
          refine stP hf rfl rfl rfl (pM rfl) fun a hf => ?_
          refine stSt (vs := [.int .i64 0, .int .i64 0]) hf hc rfl rfl rfl rfl sz_30 rfl rfl u0 fun w hc => ?_
          refine stP hf rfl rfl rfl (pA rfl) fun a hf => ?_
          refine cNil ?_
          refine h12 _ _ ?_
          refine wp_ret ?_
          refine xThenR ?_
          obtain rfl := Option.some.inj hF
          replace hc := hc.drop k1
          exact fnOut2 (by simp) rfl Try.results15 hf hc (rv_cellN (vs := [.int .i64 0, .int .i64 0]) ag_30 rfl rfl (cells_box (n := 2) m0 rfl)) (show look _ 7 = _ from rfl) ⟨rfl, (hc.drop k0)⟩
        · replace hF := condF hb hF
          clear hb
          refine wp_skip ?_
          refine h10 _ _ ?_
          refine wp_seq_k fun K13 h13 => ?_
          exact noneO hF
      | inr r_2 =>
        replace hF := sumKr hF
        have hr_2 := hr_1
        refine stC (vs := [.agg #[.int .i64 r.Rise, .int .i64 r.Fall, .slice r_Days_p r.Days.length r_Days_c]]) (caps := []) hf rfl rfl rfl en_61 rfl rfl rfl rfl (daily_agreed_ok r h_r_Days hc hr_2) ?_
        rintro _ w ⟨b_3, p_1, c_1, rfl, hc⟩
        refine ⟨_, rfl, fun a hf => ?_⟩
        refine stP hf rfl rfl rfl (pM rfl) fun a hf => ?_
        refine stP hf rfl rfl rfl (pX rfl rfl) fun a hf => ?_
        refine stP hf rfl rfl rfl (pX rfl rfl) fun a hf => ?_
        refine stP hf rfl rfl rfl (pA rfl) fun a hf => ?_
        refine stP hf rfl rfl rfl (pA rfl) fun a hf => ?_
        refine cNil ?_
        refine h9 _ _ ?_
        refine wp_seq_k fun K14 h14 => ?_
        refine wp_seq_k fun K15 h15 => ?_
        refine cReg ?_
        refine stP hf rfl rfl rfl (pM rfl) fun a hf => ?_
        refine stP hf rfl rfl rfl (pNe rfl rfl) fun a hf => ?_
        refine cNil ?_
        refine h15 _ _ ?_
        refine cCond (b := (r_2.2.2.2 != 0)) hf rfl (fun hb => ?_) (fun hb => ?_)
        · replace hF := condT hb hF
          clear hb
          refine wp_seq_k fun K16 h16 => ?_
          refine cReg ?_
          refine stP hf rfl rfl rfl (pBuildS (cells := [.int .i64 0, .int .i64 0]) bt_30 rfl rfl) fun a hf => ?_
          refine stP hf rfl rfl rfl (pM rfl) fun a hf => ?_
          refine stSt (vs := [.int .i64 0, .int .i64 0]) hf hc rfl rfl rfl rfl sz_30 rfl rfl u2 fun w hc => ?_
          refine stP hf rfl rfl rfl (pA rfl) fun a hf => ?_
          refine cNil ?_
          refine h16 _ _ ?_
          refine wp_ret ?_
          refine xThenR ?_
          obtain rfl := Option.some.inj hF
          replace hc := hc.drop k3
          replace hc := hc.drop k1
          replace hc := hc.drop k0
          exact fnOut2 (by simp) rfl Try.results15 hf hc (rv_cellN (vs := [.int .i64 0, .int .i64 0]) ag_30 rfl rfl (cells_box (n := 2) m0 rfl)) (show look _ 7 = _ from rfl) ⟨rfl, (hc.drop k0)⟩
        · replace hF := condF hb hF
          clear hb
          refine wp_skip ?_
          refine h14 _ _ ?_
          refine wp_seq_k fun K17 h17 => ?_
          have qc := row_cap hc m0
          obtain ⟨sub, hsub, hF⟩ := bnd_some hF
          replace hc := hc.nilRow 0 0
          refine regionE (fun θ => [⟨none, none, 1, .int .i64 from_⟩, ⟨none, none, 2, .int .i64 to_⟩, ⟨none, none, 6, .pointer (some ⟨b_2, 0, none⟩)⟩, ⟨none, none, 9, .pointer (some ⟨b_3, 0, none⟩)⟩, ⟨some 0, none, 40, .pointer (some ⟨b_3, 0, none⟩)⟩, ⟨some 1, none, 41, .pointer (some ⟨b_3, 0, none⟩)⟩, ⟨some 2, none, 42, .pointer (some ⟨b_3, 3, none⟩)⟩, ⟨some 3, none, 43, .slice p_1 r_2.2.2.1.length c_1⟩, ⟨some 4, none, 44, .int .i64 from_⟩, ⟨some 5, none, 45, .int .i64 to_⟩, ⟨some 6, none, 46, .int .i64 (W (to_ + 1))⟩, ⟨some 7, none, 47, .slice (subP p_1 c_1 from_.toNat 2) sub.length (c_1 - from_.toNat)⟩, ⟨some 8, none, 48, .agg #[.func (.func 96) #[] #[], .func (.func 97) #[] #[]]⟩, ⟨some 9, none, 12, .pointer (some ⟨(θ 72).b, 0, none⟩)⟩, ⟨some 10, none, 11, .slice (subP p_1 c_1 from_.toNat 2) sub.length (c_1 - from_.toNat)⟩]) (fun E θ => (bif E 11 then .box (θ 72).b [.func (.func 96) #[] #[], .func (.func 97) #[] #[]] 124 else bif E 9 then .box (θ 72).b [.nilFunc, .nilFunc] 124 else .row none 0 [] 0 0) :: .row p_1 c_1 (r_2.2.2.1.map enc_api_Span) 30 2 :: .box b_3 [.int .i64 r_2.1, .int .i64 r_2.2.1, .slice r_Days_p r.Days.length r_Days_c, .slice p_1 r_2.2.2.1.length c_1] 120 :: .box b_2 [.int .i64 0, .int .i64 0] 30 :: .box b_1 [.int .i64 r.Rise, .int .i64 r.Fall, .slice r_Days_p r.Days.length r_Days_c] 24 :: Lf) [(11, 9)] (fun a w => ∃ (b_5 : Nat), Has 60 a [(6, .pointer (some ⟨b_2, 0, none⟩)), (12, .pointer (some ⟨b_5, 0, none⟩)), (11, .slice (subP p_1 c_1 from_.toNat 2) sub.length (c_1 - from_.toNat))] ∧ Ctx G (.box b_5 [.func (.func 96) #[] #[], .func (.func 97) #[] #[]] 124 :: .row p_1 c_1 (r_2.2.2.1.map enc_api_Span) 30 2 :: .box b_3 [.int .i64 r_2.1, .int .i64 r_2.2.1, .slice r_Days_p r.Days.length r_Days_c, .slice p_1 r_2.2.2.1.length c_1] 120 :: .box b_2 [.int .i64 0, .int .i64 0] 30 :: .box b_1 [.int .i64 r.Rise, .int .i64 r.Fall, .slice r_Days_p r.Days.length r_Days_c] 24 :: Lf) w) follows_mx (by kernel_rfl) (by kernel_rfl) (HasE.of hf ⟨rfl, rfl, rfl, rfl, trivial, trivial, trivial, trivial, trivial, trivial, trivial, trivial, trivial, trivial, trivial, trivial⟩) hc ⟨?_, ?_, ?_, ?_, ?_, ?_, ?_, ?_, ?_, ?_, ?_, ?_, trivial⟩ ?_ ?_
          · intro E θ a w hD hi hp he hc
            have hf := he.h0
            replace hf := hf.more he 3 rfl onT
            refine stP hf rfl rfl rfl (pM rfl) fun a hf => ?_
            refine cNil ?_
            refine xThenN ?_
            intro ds u hau
            refine ⟨θ, he.put0 hi hau hf rfl 4 rfl rfl, ?_⟩
            exact hc
          · intro E θ a w hD hi hp he hc
            have e0 := hp.of (k := 0) rfl
            have hf := he.h0
            replace hf := hf.more he 4 rfl (onP e0)
            refine stP hf rfl rfl rfl (pNC rfl) fun a hf => ?_
            refine cNil ?_
            refine xThenN ?_
            intro ds u hau
            refine ⟨θ, he.put0 hi hau hf rfl 5 rfl rfl, ?_⟩
            exact hc
          · intro E θ a w hD hi hp he hc
            have e1 := hp.of (k := 1) rfl
            have hf := he.h0
            replace hf := hf.more he 5 rfl (onP e1)
            refine stP hf rfl rfl rfl (pFA fa_120_1 rfl) fun a hf => ?_
            refine cNil ?_
            refine xThenN ?_
            intro ds u hau
            refine ⟨θ, he.put0 hi hau hf rfl 6 rfl rfl, ?_⟩
            exact hc
          · intro E θ a w hD hi hp he hc
            have e2 := hp.of (k := 2) rfl
            have hf := he.h0
            replace hf := hf.more he 6 rfl (onP e2)
            refine stE hf hc rfl rfl rfl (eLd1 sc_25 rfl (cell_box m2 rfl)) fun a w hf hc => ?_
            refine cNil ?_
            refine xThenN ?_
            intro ds u hau
            refine ⟨θ, he.put0 hi hau hf rfl 7 rfl rfl, ?_⟩
            exact hc
          · intro E θ a w hD hi hp he hc
            have hf := he.h0
            replace hf := hf.more he 0 rfl onT
            refine stP hf rfl rfl rfl (pM rfl) fun a hf => ?_
            refine cNil ?_
            refine xThenN ?_
            intro ds u hau
            refine ⟨θ, he.put0 hi hau hf rfl 8 rfl rfl, ?_⟩
            exact hc
          · intro E θ a w hD hi hp he hc
            have hf := he.h0
            replace hf := hf.more he 1 rfl onT
            refine stP hf rfl rfl rfl (pM rfl) fun a hf => ?_
            refine cNil ?_
            refine xThenN ?_
            intro ds u hau
            refine ⟨θ, he.put0 hi hau hf rfl 9 rfl rfl, ?_⟩
            exact hc
          · intro E θ a w hD hi hp he hc
            have e5 := hp.of (k := 5) rfl
            have hf := he.h0
            replace hf := hf.more he 9 rfl (onP e5)
            refine stP hf rfl rfl rfl (pAdd rfl rfl) fun a hf => ?_
            refine cNil ?_
            refine xThenN ?_
            intro ds u hau
            refine ⟨θ, he.put0 hi hau hf rfl 10 rfl rfl, ?_⟩
            exact hc
          · intro E θ a w hD hi hp he hc
            have e3 := hp.of (k := 3) rfl
            have e4 := hp.of (k := 4) rfl
            have e6 := hp.of (k := 6) rfl
            have hf := he.h0
            replace hf := hf.more he 7 rfl (onP e3)
            replace hf := hf.more he 8 rfl (onP e4)
            replace hf := hf.more he 10 rfl (onP e6)
            refine stP hf rfl rfl rfl (pSl Try.underlying25 sz_30 rfl rfl qc rfl rfl hsub) fun a hf => ?_
            refine cNil ?_
            refine xThenN ?_
            intro ds u hau
            refine ⟨θ, he.put0 hi hau hf rfl 11 rfl rfl, ?_⟩
            exact hc
          · intro E θ a w hD hi hp he hc
            have hf := he.h0
            refine stE hf hc rfl rfl rfl (eC (v := .agg #[.func (.func 96) #[] #[], .func (.func 97) #[] #[]]) (vs := []) (caps := []) en_62 rfl rfl rfl rfl (fun w hc => daily_both_ok hc rfl)) fun a w hf hc => ?_
            refine cNil ?_
            refine xThenN ?_
            intro ds u hau
            refine ⟨θ, he.put0 hi hau hf rfl 12 rfl rfl, ?_⟩
            exact hc
          · intro E θ a w hD hi hp he hc
            have e11 := hD.f 0 rfl hi
            try dsimp only at hc
            rw [hi, e11] at hc
            have hf := he.h0
            refine stAl (cs := [.nilFunc, .nilFunc]) hf hc rfl rfl zr_124 rfl fun b_4 a w hf hc => ?_
            refine cNil ?_
            refine xThenN ?_
            intro ds u hau
            replace hc := hc.drop k1
            refine ⟨(setT θ 72 ⟨b_4, none, 0⟩), he.put hi hau hf rfl [] trivial ⟨qq, qq, qq, qq, qq, qq, qq, qq, qq, qq, qq, qq, qq, qq, qq, trivial⟩, ?_⟩
            try dsimp only
            rw [updE_self E 9, updE_fls 9 e11 rfl]
            exact hc
          · intro E θ a w hD hi hp he hc
            have e7 := hp.of (k := 7) rfl
            have hf := he.h0
            replace hf := hf.more he 11 rfl (onP e7)
            refine stP hf rfl rfl rfl (pA rfl) fun a hf => ?_
            refine cNil ?_
            refine xThenN ?_
            intro ds u hau
            refine ⟨θ, he.put0 hi hau hf rfl 14 rfl rfl, ?_⟩
            exact hc
          · intro E θ a w hD hi hp he hc
            have e8 := hp.of (k := 8) rfl
            have e9 := hp.of (k := 9) rfl
            try dsimp only at hc
            rw [e9, hi] at hc
            have hf := he.h0
            replace hf := hf.more he 12 rfl (onP e8)
            replace hf := hf.more he 13 rfl (onP e9)
            refine stSt (vs := [.func (.func 96) #[] #[], .func (.func 97) #[] #[]]) hf hc rfl rfl rfl rfl sz_124 rfl rfl u0 fun w hc => ?_
            refine cNil ?_
            refine xThenN ?_
            intro ds u hau
            refine ⟨θ, he.stay0 hi hau hf rfl, ?_⟩
            try dsimp only
            rw [updE_tru 11 e9, updE_self E 11]
            exact hc
          · intro E θ a w hall he hc
            have hf := he.h0
            have e9 := hall 9 rfl
            have e10 := hall 10 rfl
            have e11 := hall 11 rfl
            replace hf := hf.more he 14 rfl (onP e10)
            replace hf := hf.more he 13 rfl (onP e9)
            replace hf := hf.more he 2 rfl (onT)
            try dsimp only at hc
            rw [e9, e11] at hc
            exact ⟨(θ 72).b, hf.keep ⟨rfl, rfl, rfl, trivial⟩, hc⟩
          rintro a w ⟨b_5, hf, hc⟩
          refine h17 _ _ ?_
          refine wp_seq_k fun K18 h18 => ?_
          obtain ⟨r_3, hr_3, hF⟩ := bnd_some hF
          obtain ⟨r_4, hr_4, hF⟩ := bnd_some hF
          obtain ⟨r_5, hr_5, hF⟩ := bnd_some hF
          obtain ⟨r_6, hr_6, hF⟩ := bnd_some hF
          replace hc := hc.nilRow 0 0
          replace hc := hc.nilRow 0 0
          refine regionE (fun θ => [⟨none, none, 6, .pointer (some ⟨b_2, 0, none⟩)⟩, ⟨none, none, 11, .slice (subP p_1 c_1 from_.toNat 2) sub.length (c_1 - from_.toNat)⟩, ⟨none, none, 12, .pointer (some ⟨b_5, 0, none⟩)⟩, ⟨some 0, none, 49, .slice (subP p_1 c_1 from_.toNat 2) sub.length (c_1 - from_.toNat)⟩, ⟨some 1, none, 50, .pointer (some ⟨b_5, 0, none⟩)⟩, ⟨some 2, none, 51, .agg #[.func (.func 96) #[] #[]]⟩, ⟨some 3, none, 52, .slice ((θ 24).p) r_3.length ((θ 24).c)⟩, ⟨some 4, none, 53, .int .i64 r_4⟩, ⟨some 5, none, 54, .slice (subP p_1 c_1 from_.toNat 2) sub.length (c_1 - from_.toNat)⟩, ⟨some 6, none, 55, .pointer (some ⟨b_5, 1, none⟩)⟩, ⟨some 7, none, 56, .agg #[.func (.func 97) #[] #[]]⟩, ⟨some 8, none, 57, .slice ((θ 64).p) r_5.length ((θ 64).c)⟩, ⟨some 9, none, 58, .int .i64 r_6⟩, ⟨some 10, none, 59, .agg #[.int .i64 r_4, .int .i64 r_6]⟩, ⟨some 12, none, 7, .int .i64 0⟩]) (fun E θ => (bif E 8 then .row ((θ 64).p) ((θ 64).c) (r_5.map encI_i64) 3 1 else .row none 0 [] 0 0) :: (bif E 3 then .row ((θ 24).p) ((θ 24).c) (r_3.map encI_i64) 3 1 else .row none 0 [] 0 0) :: .box b_5 [.func (.func 96) #[] #[], .func (.func 97) #[] #[]] 124 :: .row p_1 c_1 (r_2.2.2.1.map enc_api_Span) 30 2 :: .box b_3 [.int .i64 r_2.1, .int .i64 r_2.2.1, .slice r_Days_p r.Days.length r_Days_c, .slice p_1 r_2.2.2.1.length c_1] 120 :: (bif E 11 then .box b_2 [.int .i64 r_4, .int .i64 r_6] 30 else .box b_2 [.int .i64 0, .int .i64 0] 30) :: .box b_1 [.int .i64 r.Rise, .int .i64 r.Fall, .slice r_Days_p r.Days.length r_Days_c] 24 :: Lf) [] (fun a w => ∃ (p_4 : Option Addr) (c_4 : Nat) (p_5 : Option Addr) (c_5 : Nat), Has 60 a [(6, .pointer (some ⟨b_2, 0, none⟩)), (7, .int .i64 0)] ∧ Ctx G (.row p_4 c_4 (r_5.map encI_i64) 3 1 :: .row p_5 c_5 (r_3.map encI_i64) 3 1 :: .box b_5 [.func (.func 96) #[] #[], .func (.func 97) #[] #[]] 124 :: .row p_1 c_1 (r_2.2.2.1.map enc_api_Span) 30 2 :: .box b_3 [.int .i64 r_2.1, .int .i64 r_2.2.1, .slice r_Days_p r.Days.length r_Days_c, .slice p_1 r_2.2.2.1.length c_1] 120 :: .box b_2 [.int .i64 r_4, .int .i64 r_6] 30 :: .box b_1 [.int .i64 r.Rise, .int .i64 r.Fall, .slice r_Days_p r.Days.length r_Days_c] 24 :: Lf) w) follows_mx (by kernel_rfl) (by kernel_rfl) (HasE.of hf ⟨rfl, rfl, rfl, trivial, trivial, trivial, trivial, trivial, trivial, trivial, trivial, trivial, trivial, trivial, trivial, trivial⟩) hc ⟨?_, ?_, ?_, ?_, ?_, ?_, ?_, ?_, ?_, ?_, ?_, ?_, ?_, trivial⟩ ?_ ?_
          · intro E θ a w hD hi hp he hc
            have hf := he.h0
            replace hf := hf.more he 1 rfl onT
            refine stP hf rfl rfl rfl (pM rfl) fun a hf => ?_
            refine cNil ?_
            refine xThenN ?_
            intro ds u hau
            refine ⟨θ, he.put0 hi hau hf rfl 3 rfl rfl, ?_⟩
            exact hc
          · intro E θ a w hD hi hp he hc
            have hf := he.h0
            replace hf := hf.more he 2 rfl onT
            refine stP hf rfl rfl rfl (pIAA Try.underlying124 sz_123 rfl rfl (by decide) (by decide)) fun a hf => ?_
            refine cNil ?_
            refine xThenN ?_
            intro ds u hau
            refine ⟨θ, he.put0 hi hau hf rfl 4 rfl rfl, ?_⟩
            exact hc
          · intro E θ a w hD hi hp he hc
            have e1 := hp.of (k := 1) rfl
            have hf := he.h0
            replace hf := hf.more he 4 rfl (onP e1)
            refine stE hf hc rfl rfl rfl (eLdN (vs := [.func (.func 96) #[] #[]]) ag_123 rfl rfl (cells_box (n := 1) m2 rfl)) fun a w hf hc => ?_
            refine cNil ?_
            refine xThenN ?_
            intro ds u hau
            refine ⟨θ, he.put0 hi hau hf rfl 5 rfl rfl, ?_⟩
            exact hc
          · intro E θ a w hD hi hp he hc
            have e0 := hp.of (k := 0) rfl
            have e2 := hp.of (k := 2) rfl
            try dsimp only at hc
            rw [hi] at hc
            have hf := he.h0
            replace hf := hf.more he 3 rfl (onP e0)
            replace hf := hf.more he 5 rfl (onP e2)
            obtain ⟨G1, hle1, hrd1, hc, hth1⟩ := lend hc k3
            refine stC (vs := [.slice (subP p_1 c_1 from_.toNat 2) sub.length (c_1 - from_.toNat), .agg #[.func (.func 96) #[] #[]]]) (caps := []) hf rfl rfl rfl en_64 rfl rfl rfl rfl (daily_ends_ok sub (Rd.sub hrd1 hsub) hc hr_3) ?_
            rintro _ w ⟨p_2, c_2, rfl, hc⟩
            refine ⟨_, rfl, fun a hf => ?_⟩
            replace hc := hth1 _ _ hc
            refine cNil ?_
            refine xThenN ?_
            intro ds u hau
            replace hc := hc.drop k3
            replace hc := hc.pick k0
            replace hc := hc.pick k3
            replace hc := hc.pick k2
            replace hc := hc.pick k3
            refine ⟨(setT θ 24 ⟨0, p_2, c_2⟩), he.put hi hau hf rfl [] trivial ⟨qq, qq, qq, qq, qq, qq, qq, qq, qq, qq, qq, qq, qq, qq, qq, trivial⟩, ?_⟩
            try dsimp only
            rw [updE_self E 3]
            exact hc
          · intro E θ a w hD hi hp he hc
            have e3 := hp.of (k := 3) rfl
            try dsimp only at hc
            rw [e3] at hc
            have hf := he.h0
            replace hf := hf.more he 6 rfl (onP e3)
            refine stE hf hc rfl rfl rfl (eC (v := .int .i64 r_4) (vs := [.slice ((θ 24).p) r_3.length ((θ 24).c)]) (caps := []) en_63 rfl rfl rfl rfl (fun w hc => by obtain ⟨G1, hle1, hrd1, hc, hth1⟩ := lend hc k1; exact (daily_sum_ok r_3 hrd1 hc hr_4).mono fun e w h => ⟨h.1, ((hth1 _ _ h.2).unpick k1)⟩)) fun a w hf hc => ?_
            refine cNil ?_
            refine xThenN ?_
            intro ds u hau
            refine ⟨θ, he.put0 hi hau hf rfl 7 rfl rfl, ?_⟩
            try dsimp only
            rw [updE_tru 4 e3]
            exact hc
          · intro E θ a w hD hi hp he hc
            have hf := he.h0
            replace hf := hf.more he 1 rfl onT
            refine stP hf rfl rfl rfl (pM rfl) fun a hf => ?_
            refine cNil ?_
            refine xThenN ?_
            intro ds u hau
            refine ⟨θ, he.put0 hi hau hf rfl 8 rfl rfl, ?_⟩
            exact hc
          · intro E θ a w hD hi hp he hc
            have hf := he.h0
            replace hf := hf.more he 2 rfl onT
            refine stP hf rfl rfl rfl (pIAA Try.underlying124 sz_123 rfl rfl (by decide) (by decide)) fun a hf => ?_
            refine cNil ?_
            refine xThenN ?_
            intro ds u hau
            refine ⟨θ, he.put0 hi hau hf rfl 9 rfl rfl, ?_⟩
            exact hc
          · intro E θ a w hD hi hp he hc
            have e6 := hp.of (k := 6) rfl
            have hf := he.h0
            replace hf := hf.more he 9 rfl (onP e6)
            refine stE hf hc rfl rfl rfl (eLdN (vs := [.func (.func 97) #[] #[]]) ag_123 rfl rfl (cells_box (n := 1) m2 rfl)) fun a w hf hc => ?_
            refine cNil ?_
            refine xThenN ?_
            intro ds u hau
            refine ⟨θ, he.put0 hi hau hf rfl 10 rfl rfl, ?_⟩
            exact hc
          · intro E θ a w hD hi hp he hc
            have e5 := hp.of (k := 5) rfl
            have e7 := hp.of (k := 7) rfl
            try dsimp only at hc
            rw [hi] at hc
            have hf := he.h0
            replace hf := hf.more he 8 rfl (onP e5)
            replace hf := hf.more he 10 rfl (onP e7)
            obtain ⟨G1, hle1, hrd1, hc, hth1⟩ := lend hc k3
            refine stC (vs := [.slice (subP p_1 c_1 from_.toNat 2) sub.length (c_1 - from_.toNat), .agg #[.func (.func 97) #[] #[]]]) (caps := []) hf rfl rfl rfl en_64 rfl rfl rfl rfl (daily_ends_s2_ok sub (Rd.sub hrd1 hsub) hc hr_5) ?_
            rintro _ w ⟨p_3, c_3, rfl, hc⟩
            refine ⟨_, rfl, fun a hf => ?_⟩
            replace hc := hth1 _ _ hc
            refine cNil ?_
            refine xThenN ?_
            intro ds u hau
            replace hc := hc.drop k2
            replace hc := hc.pick k0
            replace hc := hc.pick k3
            replace hc := hc.pick k3
            replace hc := hc.pick k3
            refine ⟨(setT θ 64 ⟨0, p_3, c_3⟩), he.put hi hau hf rfl [] trivial ⟨qq, qq, qq, qq, qq, qq, qq, qq, qq, qq, qq, qq, qq, qq, qq, trivial⟩, ?_⟩
            try dsimp only
            rw [updE_self E 8]
            exact hc
          · intro E θ a w hD hi hp he hc
            have e8 := hp.of (k := 8) rfl
            try dsimp only at hc
            rw [e8] at hc
            have hf := he.h0
            replace hf := hf.more he 11 rfl (onP e8)
            refine stE hf hc rfl rfl rfl (eC (v := .int .i64 r_6) (vs := [.slice ((θ 64).p) r_5.length ((θ 64).c)]) (caps := []) en_63 rfl rfl rfl rfl (fun w hc => by obtain ⟨G1, hle1, hrd1, hc, hth1⟩ := lend hc k0; exact (daily_sum_ok r_5 hrd1 hc hr_6).mono fun e w h => ⟨h.1, ((hth1 _ _ h.2).unpick k0)⟩)) fun a w hf hc => ?_
            refine cNil ?_
            refine xThenN ?_
            intro ds u hau
            refine ⟨θ, he.put0 hi hau hf rfl 12 rfl rfl, ?_⟩
            try dsimp only
            rw [updE_tru 9 e8]
            exact hc
          · intro E θ a w hD hi hp he hc
            have e4 := hp.of (k := 4) rfl
            have e9 := hp.of (k := 9) rfl
            have hf := he.h0
            replace hf := hf.more he 7 rfl (onP e4)
            replace hf := hf.more he 12 rfl (onP e9)
            refine stP hf rfl rfl rfl (pBuildS (cells := [.int .i64 r_4, .int .i64 r_6]) bt_30 rfl rfl) fun a hf => ?_
            refine cNil ?_
            refine xThenN ?_
            intro ds u hau
            refine ⟨θ, he.put0 hi hau hf rfl 13 rfl rfl, ?_⟩
            exact hc
          · intro E θ a w hD hi hp he hc
            have e10 := hp.of (k := 10) rfl
            try dsimp only at hc
            rw [hi] at hc
            have hf := he.h0
            replace hf := hf.more he 0 rfl onT
            replace hf := hf.more he 13 rfl (onP e10)
            refine stSt (vs := [.int .i64 r_4, .int .i64 r_6]) hf hc rfl rfl rfl rfl sz_30 rfl rfl u5 fun w hc => ?_
            refine cNil ?_
            refine xThenN ?_
            intro ds u hau
            refine ⟨θ, he.stay0 hi hau hf rfl, ?_⟩
            try dsimp only
            rw [updE_self E 11]
            exact hc
          · intro E θ a w hD hi hp he hc
            have hf := he.h0
            refine stP hf rfl rfl rfl (pA rfl) fun a hf => ?_
            refine cNil ?_
            refine xThenN ?_
            intro ds u hau
            refine ⟨θ, he.put0 hi hau hf rfl 14 rfl rfl, ?_⟩
            exact hc
          · intro E θ a w hall he hc
            have hf := he.h0
            have e3 := hall 3 rfl
            have e8 := hall 8 rfl
            have e11 := hall 11 rfl
            have e12 := hall 12 rfl
            replace hf := hf.more he 14 rfl (onP e12)
            replace hf := hf.more he 0 rfl (onT)
            try dsimp only at hc
            rw [e3, e8, e11] at hc
            exact ⟨(θ 64).p, (θ 64).c, (θ 24).p, (θ 24).c, hf.keep ⟨rfl, rfl, trivial⟩, hc⟩
          rintro a w ⟨p_4, c_4, p_5, c_5, hf, hc⟩
          refine h18 _ _ ?_
          refine wp_ret ?_
          obtain rfl := Option.some.inj hF
          replace hc := hc.drop k6
          replace hc := hc.drop k4
          replace hc := hc.drop k3
          replace hc := hc.drop k2
          replace hc := hc.drop k1
          replace hc := hc.drop k0
          exact fnOut2 (by simp) rfl Try.results15 hf hc (rv_cellN (vs := [.int .i64 r_4, .int .i64 r_6]) ag_30 rfl rfl (cells_box (n := 2) m0 rfl)) (show look _ 7 = _ from rfl) ⟨rfl, (hc.drop k0)⟩

def slices_Max_Lint_int_b7 (N : Nat) (x : List Int) (m : Int) (i_1 : Int) : Option (Step (Int × Int) (Int)) :=
  cond (decide (i_1 < ((x.length : Nat) : Int)))
  (Option.bind (getI x i_1) fun e_2 =>
  some (.cont (max m e_2, W (i_1 + 1))))
  (some (.brk (m, i_1)))
def slices_Max_Lint_int (N : Nat) (x : List Int) : Option (Int) :=
  cond (decide (((x.length : Nat) : Int) < 1))
  (none)
  (Option.bind (getI x 0) fun e_1 =>
  Option.bind (loopO (fun s7 => slices_Max_Lint_int_b7 N x s7.1 s7.2) N (e_1, 1)) fun x7 =>
  exK x7 (fun s7 => some s7.1) some)
theorem slices_Max_Lint_int_ok {N : Nat} {G : Pers} {Lf : List Ent} {w : World} (x : List Int) {x_p : Option Addr} {x_c : Nat} (h_x : Rd G 1 x_p x_c (x.map encI_i64)) (hc : Ctx G (Lf) w) {res : Int} (hF : slices_Max_Lint_int N x = some res) : Calls Try.prog 43 #[.slice x_p x.length x_c] w (fun e w => e = .returned (.int .i64 res) ∧ Ctx G (Lf) w) := by
  unfold slices_Max_Lint_int at hF
  refine fnIn (args := [.slice x_p x.length x_c]) Try.func43 rfl Try.ntmps43 rfl fun a hf => ?_
  refine wp_seq_k fun K1 h1 => ?_
  refine cReg ?_
  refine stP hf rfl rfl rfl (pA rfl) fun a hf => ?_
  refine cNil ?_
  refine h1 _ _ ?_
  refine wp_seq_k fun K2 h2 => ?_
  refine wp_seq_k fun K3 h3 => ?_
  refine cReg ?_
  refine stP hf rfl rfl rfl (pM rfl) fun a hf => ?_
  refine stP hf rfl rfl rfl (pLenS Try.underlying39 rfl) fun a hf => ?_
  refine stP hf rfl rfl rfl (pLt rfl rfl) fun a hf => ?_
  refine cNil ?_
  refine h3 _ _ ?_
  refine cCond (b := (decide (((x.length : Nat) : Int) < 1))) hf rfl (fun hb => ?_) (fun hb => ?_)
  · replace hF := condT hb hF
    clear hb
    exact noneO hF
  · replace hF := condF hb hF
    clear hb
    refine wp_skip ?_
    refine h2 _ _ ?_
    refine wp_seq_k fun K4 h4 => ?_
    refine cReg ?_
    refine stP hf rfl rfl rfl (pM rfl) fun a hf => ?_
    obtain ⟨e_1, he_1, hF⟩ := bnd_some hF
    obtain ⟨b_1, o, qa, qp⟩ := h_x.atm he_1
    refine stP hf rfl rfl rfl (pIA Try.underlying39 sz_3 rfl rfl qa) fun a hf => ?_
    refine stE hf hc rfl rfl rfl (eLd1 sc_3 rfl (cell_pc (j := 0) qp rfl)) fun a w hf hc => ?_
    refine stP hf rfl rfl rfl (pA rfl) fun a hf => ?_
    refine cNil ?_
    refine h4 _ _ ?_
    refine wp_seq_k fun K5 h5 => ?_
    refine wp_seq_k fun K6 h6 => ?_
    refine cReg ?_
    refine stP hf rfl rfl rfl (pA rfl) fun a hf => ?_
    refine cNil ?_
    refine h6 _ _ ?_
    refine wp_block ?_
    obtain ⟨x7, hx7, hF⟩ := bnd_some hF
    let S7 : (Int × Int) → Act → World → Prop := (fun (zz : Int × Int) a w => Has 25 a [(0, .slice x_p x.length x_c), (3, .int .i64 zz.1), (4, .int .i64 zz.2)] ∧ Ctx G (Lf) w)
    have hr7 : ∀ (zz : Int × Int) a w, x7 = .go zz → S7 zz a w → K5 a w := by
      rintro ⟨m, i_1⟩ a w rfl ⟨hf, hc⟩
      replace hF := exK_go hF
      refine h5 _ _ ?_
      refine wp_seq_k fun K8 h8 => ?_
      refine cReg ?_
      refine stP hf rfl rfl rfl (pM rfl) fun a hf => ?_
      refine stP hf rfl rfl rfl (pA rfl) fun a hf => ?_
      refine cNil ?_
      refine h8 _ _ ?_
      refine wp_ret ?_
      obtain rfl := Option.some.inj hF
      exact fnOut1 (by simp) rfl Try.results43 hf hc (show look _ 2 = _ from rfl) ⟨rfl, hc⟩
    have ho7 : ∀ r, x7 = .out r → r = res := by
      rintro r rfl
      exact Option.some.inj hF
    refine cLoop N (loopW (S := S7) (x := x7) ?_ N (e_1, 1) _ _ ⟨hf.keep ⟨rfl, rfl, rfl, trivial⟩, hc⟩ hx7)
    clear hF hf hc
    rintro ⟨m, i_1⟩ st7 a w KB7 ⟨hf, hc⟩ hF hfin7 hK7
    unfold slices_Max_Lint_int_b7 at hF
    refine wp_seq_k fun K9 h9 => ?_
    refine wp_seq_k fun K10 h10 => ?_
    refine cReg ?_
    refine stP hf rfl rfl rfl (pM rfl) fun a hf => ?_
    refine stP hf rfl rfl rfl (pM rfl) fun a hf => ?_
    refine stP hf rfl rfl rfl (pLenS Try.underlying39 rfl) fun a hf => ?_
    refine stP hf rfl rfl rfl (pLt rfl rfl) fun a hf => ?_
    refine cNil ?_
    refine h10 _ _ ?_
    refine cCond (b := (decide (i_1 < ((x.length : Nat) : Int)))) hf rfl (fun hb => ?_) (fun hb => ?_)
    · replace hF := condT hb hF
      clear hb
      refine wp_skip ?_
      refine h9 _ _ ?_
      refine wp_seq_k fun K11 h11 => ?_
      refine wp_block ?_
      refine cReg ?_
      refine stP hf rfl rfl rfl (pM rfl) fun a hf => ?_
      refine stP hf rfl rfl rfl (pM rfl) fun a hf => ?_
      refine stP hf rfl rfl rfl (pM rfl) fun a hf => ?_
      obtain ⟨e_2, he_2, hF⟩ := bnd_some hF
      obtain ⟨b_2, o_1, qa_1, qp_1⟩ := h_x.atm he_2
      refine stP hf rfl rfl rfl (pIA Try.underlying39 sz_3 rfl rfl qa_1) fun a hf => ?_
      refine stE hf hc rfl rfl rfl (eLd1 sc_3 rfl (cell_pc (j := 0) qp_1 rfl)) fun a w hf hc => ?_
      refine stP hf rfl rfl rfl (pMax2 rfl rfl) fun a hf => ?_
      refine stP hf rfl rfl rfl (pA rfl) fun a hf => ?_
      refine cNil ?_
      refine h11 _ _ ?_
      refine cReg ?_
      refine stP hf rfl rfl rfl (pM rfl) fun a hf => ?_
      refine stP hf rfl rfl rfl (pAdd rfl rfl) fun a hf => ?_
      refine stP hf rfl rfl rfl (pA rfl) fun a hf => ?_
      refine cNil ?_
      exact hK7 (max m e_2, W (i_1 + 1)) _ _ (Option.some.inj hF).symm ⟨hf.keep ⟨rfl, rfl, rfl, trivial⟩, hc⟩
    · replace hF := condF hb hF
      clear hb
      refine wp_exit ?_
      refine xThen ?_
      refine xThen ?_
      have he := Option.some.inj hF
      rw [← he] at hfin7
      refine cHit ?_
      exact hr7 _ _ _ hfin7 ⟨hf.keep ⟨rfl, rfl, rfl, trivial⟩, hc⟩

def daily_Peak_j20 (N : Nat) (x : Int) (days_1 : List Int) : Option (Step ((List Int) × Int) (api_Span × (List Int) × Int)) :=
  some (.cont (days_1, W (x + 1)))
def daily_Peak_b16 (N : Nat) (r_1 : Int × Int × (List api_Span) × Int) (r_3 : Int) (days : List Int) (x : Int) : Option (Step ((List Int) × Int) (api_Span × (List Int) × Int)) :=
  cond (decide (x < ((r_1.2.2.1.length : Nat) : Int)))
  (Option.bind (getI r_1.2.2.1 x) fun e_1 =>
  cond (decide (r_3 ≤ e_1.Hi))
  (Option.bind (room ((days ++ [x])).length) fun un =>
  daily_Peak_j20 N x (days ++ [x]))
  (daily_Peak_j20 N x days))
  (some (.brk (days, x)))
def daily_Peak (N : Nat) (r : daily_Record) : Option (api_Span × (List Int) × Int) :=
  Option.bind (daily_agreed N r) (sumK (fun r_0 => cond (r_0 != 0)
  (some ((⟨0, 0⟩ : api_Span), ([] : List Int), r_0))
  (none))
  (fun r_1 => cond (r_1.2.2.2 != 0)
  (some ((⟨0, 0⟩ : api_Span), ([] : List Int), r_1.2.2.2))
  (Option.bind (daily_ends N r_1.2.2.1) fun r_2 =>
  Option.bind (slices_Max_Lint_int N r_2) fun r_3 =>
  Option.bind (daily_ends_s2 N r_1.2.2.1) fun r_4 =>
  Option.bind (slices_Max_Lint_int N r_4) fun r_5 =>
  Option.bind (loopO (fun s16 => daily_Peak_b16 N r_1 r_3 s16.1 s16.2) N (([] : List Int), 0)) fun x16 =>
  exK x16 (fun s16 => some ((⟨r_3, r_5⟩ : api_Span), s16.1, 0)) some)))
theorem daily_Peak_ok {N : Nat} {G : Pers} {Lf : List Ent} {w : World} (r : daily_Record) {r_Days_p : Option Addr} {r_Days_c : Nat} (h_r_Days : Rd G 3 r_Days_p r_Days_c (r.Days.map enc_daily_Value)) (hc : Ctx G (Lf) w) {res : api_Span × (List Int) × Int} (hF : daily_Peak N r = some res) : Calls Try.prog 18 #[.agg #[.int .i64 r.Rise, .int .i64 r.Fall, .slice r_Days_p r.Days.length r_Days_c]] w (fun e w => ∃ (p'1 : Option Addr) (c'1 : Nat), e = .returned (.tuple #[.agg #[.int .i64 res.1.Lo, .int .i64 res.1.Hi], .slice p'1 res.2.1.length c'1, .int .i64 res.2.2]) ∧ Ctx G (.row p'1 c'1 (res.2.1.map encI_i64) 3 1 :: Lf) w) := by
  unfold daily_Peak at hF
  refine fnIn (args := [.agg #[.int .i64 r.Rise, .int .i64 r.Fall, .slice r_Days_p r.Days.length r_Days_c]]) Try.func18 rfl Try.ntmps18 rfl fun a hf => ?_
  refine wp_seq_k fun K1 h1 => ?_
  refine cReg ?_
  refine stBx (cs := [.int .i64 r.Rise, .int .i64 r.Fall, .slice r_Days_p r.Days.length r_Days_c]) hf hc rfl rfl rfl rfl fun b_1 a w hf hc => ?_
  refine stAl (cs := [.int .i64 0, .int .i64 0]) hf hc rfl rfl zr_30 rfl fun b_2 a w hf hc => ?_
  refine stP hf rfl rfl rfl (pA rfl) fun a hf => ?_
  refine stP hf rfl rfl rfl (pA rfl) fun a hf => ?_
  refine cNil ?_
  refine h1 _ _ ?_
  refine wp_seq_k fun K2 h2 => ?_
  refine cReg ?_
  refine stE hf hc rfl rfl rfl (eLdN (vs := [.int .i64 r.Rise, .int .i64 r.Fall, .slice r_Days_p r.Days.length r_Days_c]) ag_24 rfl rfl (cells_box (n := 3) m1 rfl)) fun a w hf hc => ?_
  obtain ⟨r_0, hr_0, hF⟩ := bnd_some hF
  cases r_0 with
  | inl r_0 =>
    replace hF := sumKl hF
    refine stC (vs := [.agg #[.int .i64 r.Rise, .int .i64 r.Fall, .slice r_Days_p r.Days.length r_Days_c]]) (caps := []) hf rfl rfl rfl en_61 rfl rfl rfl rfl (daily_agreed_ok r h_r_Days hc hr_0) ?_
    rintro _ w ⟨rfl, hc⟩
    refine ⟨_, rfl, fun a hf => ?_⟩
    refine stP hf rfl rfl rfl (pM rfl) fun a hf => ?_
    refine stP hf rfl rfl rfl (pX rfl rfl) fun a hf => ?_
    refine stP hf rfl rfl rfl (pX rfl rfl) fun a hf => ?_
    refine stP hf rfl rfl rfl (pA rfl) fun a hf => ?_
    refine stP hf rfl rfl rfl (pA rfl) fun a hf => ?_
    refine cNil ?_
    refine h2 _ _ ?_
    refine wp_seq_k fun K3 h3 => ?_
    refine wp_seq_k fun K4 h4 => ?_
    refine cReg ?_
    refine stP hf rfl rfl rfl (pM rfl) fun a hf => ?_
    refine stP hf rfl rfl rfl (pNe rfl rfl) fun a hf => ?_
    refine cNil ?_
    refine h4 _ _ ?_
    refine cCond (b := (r_0 != 0)) hf rfl (fun hb => ?_) (fun hb => ?_)
    · replace hF := condT hb hF
      clear hb
      refine wp_seq_k fun K5 h5 => ?_
      refine cReg ?_
      refine stP hf rfl rfl rfl (pBuildS (cells := [.int .i64 0, .int .i64 0]) bt_30 rfl rfl) fun a hf => ?_
      refine stP hf rfl rfl rfl (pM rfl) fun a hf => ?_
      refine stSt (vs := [.int .i64 0, .int .i64 0]) hf hc rfl rfl rfl rfl sz_30 rfl rfl u0 fun w hc => ?_
      refine stP hf rfl rfl rfl (pA rfl) fun a hf => ?_
      refine stP hf rfl rfl rfl (pA rfl) fun a hf => ?_
      refine cNil ?_
      refine h5 _ _ ?_
      refine wp_ret ?_
      refine xThenR ?_
      obtain rfl := Option.some.inj hF
      replace hc := hc.nilRow 3 1
      replace hc := hc.drop k2
      exact fnOut3 (by simp) rfl Try.results18 hf hc (rv_cellN (vs := [.int .i64 0, .int .i64 0]) ag_30 rfl rfl (cells_box (n := 2) m1 rfl)) (show look _ 3 = _ from rfl) (show look _ 4 = _ from rfl) ⟨none, 0, rfl, (hc.drop k1)⟩
    · replace hF := condF hb hF
      clear hb
      refine wp_skip ?_
      refine h3 _ _ ?_
      refine wp_seq_k fun K6 h6 => ?_
      refine cReg ?_
      refine stE hf hc rfl rfl rfl (eC (v := .agg #[.func (.func 96) #[] #[], .func (.func 97) #[] #[]]) (vs := []) (caps := []) en_62 rfl rfl rfl rfl (fun w hc => daily_both_ok hc rfl)) fun a w hf hc => ?_
      refine stAl (cs := [.nilFunc, .nilFunc]) hf hc rfl rfl zr_124 rfl fun b_3 a w hf hc => ?_
      refine stSt (vs := [.func (.func 96) #[] #[], .func (.func 97) #[] #[]]) hf hc rfl rfl rfl rfl sz_124 rfl rfl u0 fun w hc => ?_
      refine cNil ?_
      refine h6 _ _ ?_
      refine wp_seq_k fun K7 h7 => ?_
      exact noneO hF
  | inr r_1 =>
    replace hF := sumKr hF
    have hr_1 := hr_0
    refine stC (vs := [.agg #[.int .i64 r.Rise, .int .i64 r.Fall, .slice r_Days_p r.Days.length r_Days_c]]) (caps := []) hf rfl rfl rfl en_61 rfl rfl rfl rfl (daily_agreed_ok r h_r_Days hc hr_1) ?_
    rintro _ w ⟨b_4, p_1, c_1, rfl, hc⟩
    refine ⟨_, rfl, fun a hf => ?_⟩
    refine stP hf rfl rfl rfl (pM rfl) fun a hf => ?_
    refine stP hf rfl rfl rfl (pX rfl rfl) fun a hf => ?_
    refine stP hf rfl rfl rfl (pX rfl rfl) fun a hf => ?_
    refine stP hf rfl rfl rfl (pA rfl) fun a hf => ?_
    refine stP hf rfl rfl rfl (pA rfl) fun a hf => ?_
    refine cNil ?_
    refine h2 _ _ ?_
    refine wp_seq_k fun K8 h8 => ?_
    refine wp_seq_k fun K9 h9 => ?_
    refine cReg ?_
    refine stP hf rfl rfl rfl (pM rfl) fun a hf => ?_
    refine stP hf rfl rfl rfl (pNe rfl rfl) fun a hf => ?_
    refine cNil ?_
    refine h9 _ _ ?_
    refine cCond (b := (r_1.2.2.2 != 0)) hf rfl (fun hb => ?_) (fun hb => ?_)
    · replace hF := condT hb hF
      clear hb
      refine wp_seq_k fun K10 h10 => ?_
      refine cReg ?_
      refine stP hf rfl rfl rfl (pBuildS (cells := [.int .i64 0, .int .i64 0]) bt_30 rfl rfl) fun a hf => ?_
      refine stP hf rfl rfl rfl (pM rfl) fun a hf => ?_
      refine stSt (vs := [.int .i64 0, .int .i64 0]) hf hc rfl rfl rfl rfl sz_30 rfl rfl u2 fun w hc => ?_
      refine stP hf rfl rfl rfl (pA rfl) fun a hf => ?_
      refine stP hf rfl rfl rfl (pA rfl) fun a hf => ?_
      refine cNil ?_
      refine h10 _ _ ?_
      refine wp_ret ?_
      refine xThenR ?_
      obtain rfl := Option.some.inj hF
      replace hc := hc.nilRow 3 1
      replace hc := hc.drop k4
      replace hc := hc.drop k2
      replace hc := hc.drop k1
      exact fnOut3 (by simp) rfl Try.results18 hf hc (rv_cellN (vs := [.int .i64 0, .int .i64 0]) ag_30 rfl rfl (cells_box (n := 2) m1 rfl)) (show look _ 3 = _ from rfl) (show look _ 4 = _ from rfl) ⟨none, 0, rfl, (hc.drop k1)⟩
    · replace hF := condF hb hF
      clear hb
      refine wp_skip ?_
      refine h8 _ _ ?_
      refine wp_seq_k fun K11 h11 => ?_
      refine cReg ?_
      refine stE hf hc rfl rfl rfl (eC (v := .agg #[.func (.func 96) #[] #[], .func (.func 97) #[] #[]]) (vs := []) (caps := []) en_62 rfl rfl rfl rfl (fun w hc => daily_both_ok hc rfl)) fun a w hf hc => ?_
      refine stAl (cs := [.nilFunc, .nilFunc]) hf hc rfl rfl zr_124 rfl fun b_5 a w hf hc => ?_
      refine stSt (vs := [.func (.func 96) #[] #[], .func (.func 97) #[] #[]]) hf hc rfl rfl rfl rfl sz_124 rfl rfl u0 fun w hc => ?_
      refine cNil ?_
      refine h11 _ _ ?_
      refine wp_seq_k fun K12 h12 => ?_
      obtain ⟨r_2, hr_2, hF⟩ := bnd_some hF
      obtain ⟨r_3, hr_3, hF⟩ := bnd_some hF
      obtain ⟨r_4, hr_4, hF⟩ := bnd_some hF
      obtain ⟨r_5, hr_5, hF⟩ := bnd_some hF
      replace hc := hc.nilRow 0 0
      replace hc := hc.nilRow 0 0
      replace hc := hc.nilRow 0 0
      refine regionE (fun θ => [⟨none, none, 2, .pointer (some ⟨b_2, 0, none⟩)⟩, ⟨none, none, 5, .pointer (some ⟨b_4, 0, none⟩)⟩, ⟨none, none, 7, .pointer (some ⟨b_5, 0, none⟩)⟩, ⟨some 0, none, 22, .pointer (some ⟨b_4, 0, none⟩)⟩, ⟨some 1, none, 23, .pointer (some ⟨b_4, 0, none⟩)⟩, ⟨some 2, none, 24, .pointer (some ⟨b_4, 3, none⟩)⟩, ⟨some 3, none, 25, .slice p_1 r_1.2.2.1.length c_1⟩, ⟨some 4, none, 26, .pointer (some ⟨b_5, 0, none⟩)⟩, ⟨some 5, none, 27, .agg #[.func (.func 96) #[] #[]]⟩, ⟨some 6, none, 28, .slice ((θ 48).p) r_2.length ((θ 48).c)⟩, ⟨some 7, none, 29, .int .i64 r_3⟩, ⟨some 8, none, 30, .pointer (some ⟨b_4, 0, none⟩)⟩, ⟨some 9, none, 31, .pointer (some ⟨b_4, 0, none⟩)⟩, ⟨some 10, none, 32, .pointer (some ⟨b_4, 3, none⟩)⟩, ⟨some 11, none, 33, .slice p_1 r_1.2.2.1.length c_1⟩, ⟨some 12, none, 34, .pointer (some ⟨b_5, 1, none⟩)⟩, ⟨some 13, none, 35, .agg #[.func (.func 97) #[] #[]]⟩, ⟨some 14, none, 36, .slice ((θ 112).p) r_4.length ((θ 112).c)⟩, ⟨some 15, none, 37, .int .i64 r_5⟩, ⟨some 16, none, 38, .agg #[.int .i64 r_3, .int .i64 r_5]⟩, ⟨some 17, none, 8, .pointer (some ⟨(θ 136).b, 0, none⟩)⟩]) (fun E θ => (bif E 18 then .box (θ 136).b [.int .i64 r_3, .int .i64 r_5] 30 else bif E 17 then .box (θ 136).b [.int .i64 0, .int .i64 0] 30 else .row none 0 [] 0 0) :: (bif E 14 then .row ((θ 112).p) ((θ 112).c) (r_4.map encI_i64) 3 1 else .row none 0 [] 0 0) :: (bif E 6 then .row ((θ 48).p) ((θ 48).c) (r_2.map encI_i64) 3 1 else .row none 0 [] 0 0) :: .box b_5 [.func (.func 96) #[] #[], .func (.func 97) #[] #[]] 124 :: .row p_1 c_1 (r_1.2.2.1.map enc_api_Span) 30 2 :: .box b_4 [.int .i64 r_1.1, .int .i64 r_1.2.1, .slice r_Days_p r.Days.length r_Days_c, .slice p_1 r_1.2.2.1.length c_1] 120 :: .box b_2 [.int .i64 0, .int .i64 0] 30 :: .box b_1 [.int .i64 r.Rise, .int .i64 r.Fall, .slice r_Days_p r.Days.length r_Days_c] 24 :: Lf) [(18, 17)] (fun a w => ∃ (b_7 : Nat) (p_4 : Option Addr) (c_4 : Nat) (p_5 : Option Addr) (c_5 : Nat), Has 61 a [(2, .pointer (some ⟨b_2, 0, none⟩)), (5, .pointer (some ⟨b_4, 0, none⟩)), (8, .pointer (some ⟨b_7, 0, none⟩))] ∧ Ctx G (.box b_7 [.int .i64 r_3, .int .i64 r_5] 30 :: .row p_4 c_4 (r_4.map encI_i64) 3 1 :: .row p_5 c_5 (r_2.map encI_i64) 3 1 :: .box b_5 [.func (.func 96) #[] #[], .func (.func 97) #[] #[]] 124 :: .row p_1 c_1 (r_1.2.2.1.map enc_api_Span) 30 2 :: .box b_4 [.int .i64 r_1.1, .int .i64 r_1.2.1, .slice r_Days_p r.Days.length r_Days_c, .slice p_1 r_1.2.2.1.length c_1] 120 :: .box b_2 [.int .i64 0, .int .i64 0] 30 :: .box b_1 [.int .i64 r.Rise, .int .i64 r.Fall, .slice r_Days_p r.Days.length r_Days_c] 24 :: Lf) w) follows_mx (by kernel_rfl) (by kernel_rfl) (HasE.of hf ⟨rfl, rfl, rfl, trivial, trivial, trivial, trivial, trivial, trivial, trivial, trivial, trivial, trivial, trivial, trivial, trivial, trivial, trivial, trivial, trivial, trivial, trivial⟩) hc ⟨?_, ?_, ?_, ?_, ?_, ?_, ?_, ?_, ?_, ?_, ?_, ?_, ?_, ?_, ?_, ?_, ?_, ?_, ?_, trivial⟩ ?_ ?_
      · intro E θ a w hD hi hp he hc
        have hf := he.h0
        replace hf := hf.more he 1 rfl onT
        refine stP hf rfl rfl rfl (pM rfl) fun a hf => ?_
        refine cNil ?_
        refine xThenN ?_
        intro ds u hau
        refine ⟨θ, he.put0 hi hau hf rfl 3 rfl rfl, ?_⟩
        exact hc
      · intro E θ a w hD hi hp he hc
        have e0 := hp.of (k := 0) rfl
        have hf := he.h0
        replace hf := hf.more he 3 rfl (onP e0)
        refine stP hf rfl rfl rfl (pNC rfl) fun a hf => ?_
        refine cNil ?_
        refine xThenN ?_
        intro ds u hau
        refine ⟨θ, he.put0 hi hau hf rfl 4 rfl rfl, ?_⟩
        exact hc
      · intro E θ a w hD hi hp he hc
        have e1 := hp.of (k := 1) rfl
        have hf := he.h0
        replace hf := hf.more he 4 rfl (onP e1)
        refine stP hf rfl rfl rfl (pFA fa_120_1 rfl) fun a hf => ?_
        refine cNil ?_
        refine xThenN ?_
        intro ds u hau
        refine ⟨θ, he.put0 hi hau hf rfl 5 rfl rfl, ?_⟩
        exact hc
      · intro E θ a w hD hi hp he hc
        have e2 := hp.of (k := 2) rfl
        have hf := he.h0
        replace hf := hf.more he 5 rfl (onP e2)
        refine stE hf hc rfl rfl rfl (eLd1 sc_25 rfl (cell_box m5 rfl)) fun a w hf hc => ?_
        refine cNil ?_
        refine xThenN ?_
        intro ds u hau
        refine ⟨θ, he.put0 hi hau hf rfl 6 rfl rfl, ?_⟩
        exact hc
      · intro E θ a w hD hi hp he hc
        have hf := he.h0
        replace hf := hf.more he 2 rfl onT
        refine stP hf rfl rfl rfl (pIAA Try.underlying124 sz_123 rfl rfl (by decide) (by decide)) fun a hf => ?_
        refine cNil ?_
        refine xThenN ?_
        intro ds u hau
        refine ⟨θ, he.put0 hi hau hf rfl 7 rfl rfl, ?_⟩
        exact hc
      · intro E θ a w hD hi hp he hc
        have e4 := hp.of (k := 4) rfl
        have hf := he.h0
        replace hf := hf.more he 7 rfl (onP e4)
        refine stE hf hc rfl rfl rfl (eLdN (vs := [.func (.func 96) #[] #[]]) ag_123 rfl rfl (cells_box (n := 1) m3 rfl)) fun a w hf hc => ?_
        refine cNil ?_
        refine xThenN ?_
        intro ds u hau
        refine ⟨θ, he.put0 hi hau hf rfl 8 rfl rfl, ?_⟩
        exact hc
      · intro E θ a w hD hi hp he hc
        have e3 := hp.of (k := 3) rfl
        have e5 := hp.of (k := 5) rfl
        try dsimp only at hc
        rw [hi] at hc
        have hf := he.h0
        replace hf := hf.more he 6 rfl (onP e3)
        replace hf := hf.more he 8 rfl (onP e5)
        obtain ⟨G1, hle1, hrd1, hc, hth1⟩ := lend hc k4
        refine stC (vs := [.slice p_1 r_1.2.2.1.length c_1, .agg #[.func (.func 96) #[] #[]]]) (caps := []) hf rfl rfl rfl en_64 rfl rfl rfl rfl (daily_ends_ok r_1.2.2.1 hrd1 hc hr_2) ?_
        rintro _ w ⟨p_2, c_2, rfl, hc⟩
        refine ⟨_, rfl, fun a hf => ?_⟩
        replace hc := hth1 _ _ hc
        refine cNil ?_
        refine xThenN ?_
        intro ds u hau
        replace hc := hc.drop k4
        replace hc := hc.pick k0
        replace hc := hc.pick k4
        replace hc := hc.pick k2
        replace hc := hc.pick k4
        replace hc := hc.pick k4
        refine ⟨(setT θ 48 ⟨0, p_2, c_2⟩), he.put hi hau hf rfl [] trivial ⟨qq, qq, qq, qq, qq, qq, qq, qq, qq, qq, qq, qq, qq, qq, qq, qq, qq, qq, qq, qq, qq, trivial⟩, ?_⟩
        try dsimp only
        rw [updE_self E 6]
        exact hc
      · intro E θ a w hD hi hp he hc
        have e6 := hp.of (k := 6) rfl
        try dsimp only at hc
        rw [e6] at hc
        have hf := he.h0
        replace hf := hf.more he 9 rfl (onP e6)
        refine stE hf hc rfl rfl rfl (eC (v := .int .i64 r_3) (vs := [.slice ((θ 48).p) r_2.length ((θ 48).c)]) (caps := []) en_43 rfl rfl rfl rfl (fun w hc => by obtain ⟨G1, hle1, hrd1, hc, hth1⟩ := lend hc k2; exact (slices_Max_Lint_int_ok r_2 hrd1 hc hr_3).mono fun e w h => ⟨h.1, ((hth1 _ _ h.2).unpick k2)⟩)) fun a w hf hc => ?_
        refine cNil ?_
        refine xThenN ?_
        intro ds u hau
        refine ⟨θ, he.put0 hi hau hf rfl 10 rfl rfl, ?_⟩
        try dsimp only
        rw [updE_tru 7 e6]
        exact hc
      · intro E θ a w hD hi hp he hc
        have hf := he.h0
        replace hf := hf.more he 1 rfl onT
        refine stP hf rfl rfl rfl (pM rfl) fun a hf => ?_
        refine cNil ?_
        refine xThenN ?_
        intro ds u hau
        refine ⟨θ, he.put0 hi hau hf rfl 11 rfl rfl, ?_⟩
        exact hc
      · intro E θ a w hD hi hp he hc
        have e8 := hp.of (k := 8) rfl
        have hf := he.h0
        replace hf := hf.more he 11 rfl (onP e8)
        refine stP hf rfl rfl rfl (pNC rfl) fun a hf => ?_
        refine cNil ?_
        refine xThenN ?_
        intro ds u hau
        refine ⟨θ, he.put0 hi hau hf rfl 12 rfl rfl, ?_⟩
        exact hc
      · intro E θ a w hD hi hp he hc
        have e9 := hp.of (k := 9) rfl
        have hf := he.h0
        replace hf := hf.more he 12 rfl (onP e9)
        refine stP hf rfl rfl rfl (pFA fa_120_1 rfl) fun a hf => ?_
        refine cNil ?_
        refine xThenN ?_
        intro ds u hau
        refine ⟨θ, he.put0 hi hau hf rfl 13 rfl rfl, ?_⟩
        exact hc
      · intro E θ a w hD hi hp he hc
        have e10 := hp.of (k := 10) rfl
        have hf := he.h0
        replace hf := hf.more he 13 rfl (onP e10)
        refine stE hf hc rfl rfl rfl (eLd1 sc_25 rfl (cell_box m5 rfl)) fun a w hf hc => ?_
        refine cNil ?_
        refine xThenN ?_
        intro ds u hau
        refine ⟨θ, he.put0 hi hau hf rfl 14 rfl rfl, ?_⟩
        exact hc
      · intro E θ a w hD hi hp he hc
        have hf := he.h0
        replace hf := hf.more he 2 rfl onT
        refine stP hf rfl rfl rfl (pIAA Try.underlying124 sz_123 rfl rfl (by decide) (by decide)) fun a hf => ?_
        refine cNil ?_
        refine xThenN ?_
        intro ds u hau
        refine ⟨θ, he.put0 hi hau hf rfl 15 rfl rfl, ?_⟩
        exact hc
      · intro E θ a w hD hi hp he hc
        have e12 := hp.of (k := 12) rfl
        have hf := he.h0
        replace hf := hf.more he 15 rfl (onP e12)
        refine stE hf hc rfl rfl rfl (eLdN (vs := [.func (.func 97) #[] #[]]) ag_123 rfl rfl (cells_box (n := 1) m3 rfl)) fun a w hf hc => ?_
        refine cNil ?_
        refine xThenN ?_
        intro ds u hau
        refine ⟨θ, he.put0 hi hau hf rfl 16 rfl rfl, ?_⟩
        exact hc
      · intro E θ a w hD hi hp he hc
        have e11 := hp.of (k := 11) rfl
        have e13 := hp.of (k := 13) rfl
        try dsimp only at hc
        rw [hi] at hc
        have hf := he.h0
        replace hf := hf.more he 14 rfl (onP e11)
        replace hf := hf.more he 16 rfl (onP e13)
        obtain ⟨G1, hle1, hrd1, hc, hth1⟩ := lend hc k4
        refine stC (vs := [.slice p_1 r_1.2.2.1.length c_1, .agg #[.func (.func 97) #[] #[]]]) (caps := []) hf rfl rfl rfl en_64 rfl rfl rfl rfl (daily_ends_s2_ok r_1.2.2.1 hrd1 hc hr_4) ?_
        rintro _ w ⟨p_3, c_3, rfl, hc⟩
        refine ⟨_, rfl, fun a hf => ?_⟩
        replace hc := hth1 _ _ hc
        refine cNil ?_
        refine xThenN ?_
        intro ds u hau
        replace hc := hc.drop k3
        replace hc := hc.pick k0
        replace hc := hc.pick k4
        replace hc := hc.pick k4
        replace hc := hc.pick k3
        replace hc := hc.pick k4
        refine ⟨(setT θ 112 ⟨0, p_3, c_3⟩), he.put hi hau hf rfl [] trivial ⟨qq, qq, qq, qq, qq, qq, qq, qq, qq, qq, qq, qq, qq, qq, qq, qq, qq, qq, qq, qq, qq, trivial⟩, ?_⟩
        try dsimp only
        rw [updE_self E 14]
        exact hc
      · intro E θ a w hD hi hp he hc
        have e14 := hp.of (k := 14) rfl
        try dsimp only at hc
        rw [e14] at hc
        have hf := he.h0
        replace hf := hf.more he 17 rfl (onP e14)
        refine stE hf hc rfl rfl rfl (eC (v := .int .i64 r_5) (vs := [.slice ((θ 112).p) r_4.length ((θ 112).c)]) (caps := []) en_43 rfl rfl rfl rfl (fun w hc => by obtain ⟨G1, hle1, hrd1, hc, hth1⟩ := lend hc k1; exact (slices_Max_Lint_int_ok r_4 hrd1 hc hr_5).mono fun e w h => ⟨h.1, ((hth1 _ _ h.2).unpick k1)⟩)) fun a w hf hc => ?_
        refine cNil ?_
        refine xThenN ?_
        intro ds u hau
        refine ⟨θ, he.put0 hi hau hf rfl 18 rfl rfl, ?_⟩
        try dsimp only
        rw [updE_tru 15 e14]
        exact hc
      · intro E θ a w hD hi hp he hc
        have e7 := hp.of (k := 7) rfl
        have e15 := hp.of (k := 15) rfl
        have hf := he.h0
        replace hf := hf.more he 10 rfl (onP e7)
        replace hf := hf.more he 18 rfl (onP e15)
        refine stP hf rfl rfl rfl (pBuildS (cells := [.int .i64 r_3, .int .i64 r_5]) bt_30 rfl rfl) fun a hf => ?_
        refine cNil ?_
        refine xThenN ?_
        intro ds u hau
        refine ⟨θ, he.put0 hi hau hf rfl 19 rfl rfl, ?_⟩
        exact hc
      · intro E θ a w hD hi hp he hc
        have e18 := hD.f 0 rfl hi
        try dsimp only at hc
        rw [hi, e18] at hc
        have hf := he.h0
        refine stAl (cs := [.int .i64 0, .int .i64 0]) hf hc rfl rfl zr_30 rfl fun b_6 a w hf hc => ?_
        refine cNil ?_
        refine xThenN ?_
        intro ds u hau
        replace hc := hc.drop k1
        refine ⟨(setT θ 136 ⟨b_6, none, 0⟩), he.put hi hau hf rfl [] trivial ⟨qq, qq, qq, qq, qq, qq, qq, qq, qq, qq, qq, qq, qq, qq, qq, qq, qq, qq, qq, qq, qq, trivial⟩, ?_⟩
        try dsimp only
        rw [updE_self E 17, updE_fls 17 e18 rfl]
        exact hc
      · intro E θ a w hD hi hp he hc
        have e16 := hp.of (k := 16) rfl
        have e17 := hp.of (k := 17) rfl
        try dsimp only at hc
        rw [e17, hi] at hc
        have hf := he.h0
        replace hf := hf.more he 19 rfl (onP e16)
        replace hf := hf.more he 20 rfl (onP e17)
        refine stSt (vs := [.int .i64 r_3, .int .i64 r_5]) hf hc rfl rfl rfl rfl sz_30 rfl rfl u0 fun w hc => ?_
        refine cNil ?_
        refine xThenN ?_
        intro ds u hau
        refine ⟨θ, he.stay0 hi hau hf rfl, ?_⟩
        try dsimp only
        rw [updE_tru 18 e17, updE_self E 18]
        exact hc
      · intro E θ a w hall he hc
        have hf := he.h0
        have e6 := hall 6 rfl
        have e14 := hall 14 rfl
        have e17 := hall 17 rfl
        have e18 := hall 18 rfl
        replace hf := hf.more he 20 rfl (onP e17)
        replace hf := hf.more he 1 rfl (onT)
        replace hf := hf.more he 0 rfl (onT)
        try dsimp only at hc
        rw [e6, e14, e17, e18] at hc
        exact ⟨(θ 136).b, (θ 112).p, (θ 112).c, (θ 48).p, (θ 48).c, hf.keep ⟨rfl, rfl, rfl, trivial⟩, hc⟩
      rintro a w ⟨b_7, p_4, c_4, p_5, c_5, hf, hc⟩
      refine h12 _ _ ?_
      refine wp_seq_k fun K13 h13 => ?_
      refine cReg ?_
      refine stP hf rfl rfl rfl (pA rfl) fun a hf => ?_
      refine cNil ?_
      refine h13 _ _ ?_
      refine wp_seq_k fun K14 h14 => ?_
      refine wp_seq_k fun K15 h15 => ?_
      refine cReg ?_
      refine stP hf rfl rfl rfl (pM rfl) fun a hf => ?_
      refine stP hf rfl rfl rfl (pNC rfl) fun a hf => ?_
      refine stP hf rfl rfl rfl (pFA fa_120_1 rfl) fun a hf => ?_
      refine stE hf hc rfl rfl rfl (eLd1 sc_25 rfl (cell_box m5 rfl)) fun a w hf hc => ?_
      refine stP hf rfl rfl rfl (pLenS Try.underlying25 rfl) fun a hf => ?_
      refine stP hf rfl rfl rfl (pM rfl) fun a hf => ?_
      refine cNil ?_
      refine h15 _ _ ?_
      refine wp_block ?_
      obtain ⟨x16, hx16, hF⟩ := bnd_some hF
      let S16 : ((List Int) × Int) → Act → World → Prop := (fun (zz : (List Int) × Int) a w => ∃ (p_6 : Option Addr) (c_6 : Nat) (p_7 : Option Addr) (c_7 : Nat), Has 61 a [(2, .pointer (some ⟨b_2, 0, none⟩)), (8, .pointer (some ⟨b_7, 0, none⟩)), (9, .slice p_6 zz.1.length c_6), (42, .slice p_7 r_1.2.2.1.length c_7), (43, .int .i64 ((r_1.2.2.1.length : Nat) : Int)), (44, .int .i64 zz.2)] ∧ Ctx G (.row p_6 c_6 (zz.1.map encI_i64) 3 1 :: .box b_7 [.int .i64 r_3, .int .i64 r_5] 30 :: .row p_7 c_7 (r_1.2.2.1.map enc_api_Span) 30 2 :: .box b_2 [.int .i64 0, .int .i64 0] 30 :: Lf) w)
      have hr16 : ∀ (zz : (List Int) × Int) a w, x16 = .go zz → S16 zz a w → K14 a w := by
        rintro ⟨days, x⟩ a w rfl ⟨p_6, c_6, p_7, c_7, hf, hc⟩
        replace hF := exK_go hF
        refine h14 _ _ ?_
        refine wp_seq_k fun K17 h17 => ?_
        refine cReg ?_
        refine stE hf hc rfl rfl rfl (eLdN (vs := [.int .i64 r_3, .int .i64 r_5]) ag_30 rfl rfl (cells_box (n := 2) m1 rfl)) fun a w hf hc => ?_
        refine stP hf rfl rfl rfl (pM rfl) fun a hf => ?_
        refine stSt (vs := [.int .i64 r_3, .int .i64 r_5]) hf hc rfl rfl rfl rfl sz_30 rfl rfl u3 fun w hc => ?_
        refine stP hf rfl rfl rfl (pA rfl) fun a hf => ?_
        refine stP hf rfl rfl rfl (pA rfl) fun a hf => ?_
        refine cNil ?_
        refine h17 _ _ ?_
        refine wp_ret ?_
        obtain rfl := Option.some.inj hF
        replace hc := hc.drop k2
        replace hc := hc.drop k1
        exact fnOut3 (by simp) rfl Try.results18 hf hc (rv_cellN (vs := [.int .i64 r_3, .int .i64 r_5]) ag_30 rfl rfl (cells_box (n := 2) m1 rfl)) (show look _ 3 = _ from rfl) (show look _ 4 = _ from rfl) ⟨p_6, c_6, rfl, (hc.drop k1)⟩
      have ho16 : ∀ r, x16 = .out r → r = res := by
        rintro r rfl
        exact Option.some.inj hF
      replace hc := hc.nilRow 3 1
      replace hc := hc.drop k8
      replace hc := hc.drop k6
      replace hc := hc.drop k4
      replace hc := hc.drop k3
      replace hc := hc.drop k2
      refine cLoop N (loopW (S := S16) (x := x16) ?_ N (([] : List Int), 0) _ _ ⟨none, 0, p_1, c_1, hf.keep ⟨rfl, rfl, rfl, rfl, rfl, rfl, trivial⟩, hc⟩ hx16)
      clear hF hf hc
      rintro ⟨days, x⟩ st16 a w KB16 ⟨p_6, c_6, p_7, c_7, hf, hc⟩ hF hfin16 hK16
      unfold daily_Peak_b16 at hF
      refine wp_seq_k fun K18 h18 => ?_
      refine cReg ?_
      refine stP hf rfl rfl rfl (pLt rfl rfl) fun a hf => ?_
      refine cNil ?_
      refine h18 _ _ ?_
      refine wp_seq_k fun K19 h19 => ?_
      refine cCond (b := (decide (x < ((r_1.2.2.1.length : Nat) : Int)))) hf rfl (fun hb => ?_) (fun hb => ?_)
      · replace hF := condT hb hF
        clear hb
        refine wp_skip ?_
        refine h19 _ _ ?_
        refine wp_seq_k fun K20 h20 => ?_
        have hj20 : ∀ (days_1 : List Int) (p_8 : Option Addr) (c_8 : Nat) (p_9 : Option Addr) (c_9 : Nat) a w, Has 61 a [(2, .pointer (some ⟨b_2, 0, none⟩)), (8, .pointer (some ⟨b_7, 0, none⟩)), (9, .slice p_8 days_1.length c_8), (42, .slice p_9 r_1.2.2.1.length c_9), (43, .int .i64 ((r_1.2.2.1.length : Nat) : Int)), (44, .int .i64 x)] → Ctx G (.row p_8 c_8 (days_1.map encI_i64) 3 1 :: .box b_7 [.int .i64 r_3, .int .i64 r_5] 30 :: .row p_9 c_9 (r_1.2.2.1.map enc_api_Span) 30 2 :: .box b_2 [.int .i64 0, .int .i64 0] 30 :: Lf) w → daily_Peak_j20 N x days_1 = some st16 → K20 a w := by
          repeat (clear hF)
          repeat (clear hc)
          repeat (clear hf)
          intro days_1 p_8 c_8 p_9 c_9 a w hf hc hF
          unfold daily_Peak_j20 at hF
          refine h20 _ _ ?_
          refine cReg ?_
          refine stP hf rfl rfl rfl (pAdd rfl rfl) fun a hf => ?_
          refine stP hf rfl rfl rfl (pM rfl) fun a hf => ?_
          refine cNil ?_
          exact hK16 (days_1, W (x + 1)) _ _ (Option.some.inj hF).symm ⟨p_8, c_8, p_9, c_9, hf.keep ⟨rfl, rfl, rfl, rfl, rfl, rfl, trivial⟩, hc⟩
        refine wp_block ?_
        refine wp_seq_k fun K21 h21 => ?_
        refine cReg ?_
        refine stP hf rfl rfl rfl (pM rfl) fun a hf => ?_
        obtain ⟨e_1, he_1, hF⟩ := bnd_some hF
        obtain ⟨g, rfl, qa, qr⟩ := row_atm hc m2 he_1
        refine stP hf rfl rfl rfl (pIA Try.underlying25 sz_30 rfl rfl qa) fun a hf => ?_
        refine stE hf hc rfl rfl rfl (eLdN (vs := [.int .i64 e_1.Lo, .int .i64 e_1.Hi]) ag_30 rfl rfl (cells_rw (sz := 2) (i := x.toNat) m2 qr (n := 2) (o' := 0) rfl)) fun a w hf hc => ?_
        refine stAl (cs := [.int .i64 0, .int .i64 0]) hf hc rfl rfl zr_30 rfl fun b_8 a w hf hc => ?_
        refine stP hf rfl rfl rfl (pA rfl) fun a hf => ?_
        refine stSt (vs := [.int .i64 e_1.Lo, .int .i64 e_1.Hi]) hf hc rfl rfl rfl rfl sz_30 rfl rfl u0 fun w hc => ?_
        refine cNil ?_
        refine h21 _ _ ?_
        refine wp_seq_k fun K22 h22 => ?_
        refine cReg ?_
        refine stP hf rfl rfl rfl (pFA fa_30_1 rfl) fun a hf => ?_
        refine stE hf hc rfl rfl rfl (eLd1 sc_3 rfl (cell_box m0 rfl)) fun a w hf hc => ?_
        refine stP hf rfl rfl rfl (pFA fa_30_0 rfl) fun a hf => ?_
        refine stE hf hc rfl rfl rfl (eLd1 sc_3 rfl (cell_box m2 rfl)) fun a w hf hc => ?_
        refine stP hf rfl rfl rfl (pGe rfl rfl) fun a hf => ?_
        refine cNil ?_
        refine h22 _ _ ?_
        refine cCond (b := (decide (r_3 ≤ e_1.Hi))) hf rfl (fun hb => ?_) (fun hb => ?_)
        · replace hF := condT hb hF
          clear hb
          refine cReg ?_
          refine stP hf rfl rfl rfl (pM rfl) fun a hf => ?_
          refine stP hf rfl rfl rfl (pM rfl) fun a hf => ?_
          refine stBS (rows := ([x] : List Int).map encI_i64) (vs := [(0, .int .i64 x)]) hf hc rfl rfl sl_39 rfl ⟨rfl, rfl, rfl, trivial⟩ rfl rfl fun b_9 a w hf hc => ?_
          obtain ⟨un, hun, hF⟩ := bnd_some hF
          refine stApm (xs := days) (ys := ([x] : List Int)) hf hc rfl rfl sl_39 rfl rfl rfl rfl rfl one_encI_i64 (src_row hc m0) (fun _ _ => u2) (by simpa using room_spec hun) fun p_10 c_10 a w hf hc => ?_
          refine stP hf rfl rfl rfl (pA rfl) fun a hf => ?_
          refine cNil ?_
          replace hc := hc.drop k1
          replace hc := hc.drop k0
          exact hj20 (days ++ [x]) p_10 c_10 (some ⟨g, 0, none⟩) c_7 _ _  (hf.keep ⟨rfl, rfl, rfl, rfl, rfl, rfl, trivial⟩) hc hF
        · replace hF := condF hb hF
          clear hb
          refine wp_skip ?_
          replace hc := hc.drop k0
          exact hj20 days p_6 c_6 (some ⟨g, 0, none⟩) c_7 _ _  (hf.keep ⟨rfl, rfl, rfl, rfl, rfl, rfl, trivial⟩) hc hF
      · replace hF := condF hb hF
        clear hb
        refine wp_exit ?_
        refine xThen ?_
        refine xThen ?_
        have he := Option.some.inj hF
        rw [← he] at hfin16
        refine cHit ?_
        exact hr16 _ _ _ hfin16 ⟨p_6, c_6, p_7, c_7, hf.keep ⟨rfl, rfl, rfl, rfl, rfl, rfl, trivial⟩, hc⟩

end Go.Nilo
