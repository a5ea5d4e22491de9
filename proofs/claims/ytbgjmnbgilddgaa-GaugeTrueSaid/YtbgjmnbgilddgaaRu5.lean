/-
  What functions of the Go text compute, as plain functions, and that they do, part 5 of 5. Conditions: what each theorem names.
-/
import Derived.Test.YtbgjmnbgilddgaaRu4
import Derived.Test.YtbgjmnbgilddgaaProg
set_option linter.unusedVariables false
set_option maxRecDepth 100000
set_option maxHeartbeats 4000000
namespace Go.Nilo
open Go.Proofs


def law03_GaugeTrue_j32 (N : Nat) (x_4 : Int) (l_1 : List api_Span) (sum : Int) (x_6 : List gauge_Vertical) (r_9 : Int × Int) (end_ : Int) : Option (Step ((List api_Span) × Int × (List gauge_Vertical)) (Bool)) :=
  cond (((r_9.2 != 0) || (r_9.1 != end_)) || (sum != end_))
  (some (.ret false))
  (some (.cont (l_1, W (x_4 + 1), x_6)))
def law03_GaugeTrue_j43 (N : Nat) (l_1 : List api_Span) (depths : List Int) (speeds : List Int) (sum : Int) (x_6 : List gauge_Vertical) (x_7 : Int) (speed : Int) (want : Int) (depth : Int) : Option (Step ((List api_Span) × (List Int) × (List Int) × Int × (List gauge_Vertical) × Int) (Step ((List api_Span) × Int × (List gauge_Vertical)) (Bool))) :=
  Option.bind (room ((depths ++ [depth])).length) fun un =>
  Option.bind (room ((speeds ++ [speed])).length) fun un_1 =>
  some (.cont (l_1, (depths ++ [depth]), (speeds ++ [speed]), W (sum + want), x_6, W (x_7 + 1)))
def law03_GaugeTrue_j41 (N : Nat) (e_1 : Bool) (l_1 : List api_Span) (depths : List Int) (speeds : List Int) (sum : Int) (x_6 : List gauge_Vertical) (x_7 : Int) (e_2 : gauge_Vertical) (speed : Int) (want : Int) : Option (Step ((List api_Span) × (List Int) × (List Int) × Int × (List gauge_Vertical) × Int) (Step ((List api_Span) × Int × (List gauge_Vertical)) (Bool))) :=
  cond ((decide (0 < speed)) == e_1)
  (law03_GaugeTrue_j43 N l_1 depths speeds sum x_6 x_7 speed want e_2.Depth.Hi)
  (law03_GaugeTrue_j43 N l_1 depths speeds sum x_6 x_7 speed want e_2.Depth.Lo)
def law03_GaugeTrue_b29 (N : Nat) (x_5 : List gauge_Vertical) (e_1 : Bool) (l_1 : List api_Span) (depths : List Int) (speeds : List Int) (sum : Int) (x_6 : List gauge_Vertical) (x_7 : Int) : Option (Step ((List api_Span) × (List Int) × (List Int) × Int × (List gauge_Vertical) × Int) (Step ((List api_Span) × Int × (List gauge_Vertical)) (Bool))) :=
  cond (decide (x_7 < ((x_5.length : Nat) : Int)))
  (Option.bind (getI x_6 x_7) fun e_2 =>
  Option.bind (getI l_1 x_7) fun e_3 =>
  cond e_1
  (Option.bind (getI l_1 x_7) fun e_4 =>
  law03_GaugeTrue_j41 N e_1 l_1 depths speeds sum x_6 x_7 e_2 e_2.Speed.Hi e_4.Hi)
  (law03_GaugeTrue_j41 N e_1 l_1 depths speeds sum x_6 x_7 e_2 e_2.Speed.Lo e_3.Lo))
  (some (.brk (l_1, depths, speeds, sum, x_6, x_7)))
def law03_GaugeTrue_b19 (N : Nat) (r_3 : gauge_Gauging × Int × Int) (r_5 : api_Span × Int) (l : List api_Span) (x_4 : Int) (x_5 : List gauge_Vertical) : Option (Step ((List api_Span) × Int × (List gauge_Vertical)) (Bool)) :=
  cond (decide (x_4 < (2 : Int)))
  (Option.bind (getI ([false, true] : List Bool) x_4) fun e_1 =>
  Option.bind (loopO (fun s29 => law03_GaugeTrue_b29 N x_5 e_1 s29.1 s29.2.1 s29.2.2.1 s29.2.2.2.1 s29.2.2.2.2.1 s29.2.2.2.2.2) N (l, ([] : List Int), ([] : List Int), 0, x_5, 0)) fun x29 =>
  exK x29 (fun s29 => Option.bind (gauge_Real N (⟨r_3.1.Left, r_3.1.Right, s29.2.2.2.2.1⟩ : gauge_Gauging) s29.2.1 s29.2.2.1) fun r_9 =>
  cond e_1
  (law03_GaugeTrue_j32 N x_4 s29.1 s29.2.2.2.1 s29.2.2.2.2.1 r_9 r_5.1.Hi)
  (law03_GaugeTrue_j32 N x_4 s29.1 s29.2.2.2.1 s29.2.2.2.2.1 r_9 r_5.1.Lo)) some)
  (some (.brk (l, x_4, x_5)))
def law03_GaugeTrue_b53 (N : Nat) (tries : List Int) (x_1 : List gauge_Vertical) (depths_1 : List Int) (speeds_1 : List Int) (x_8 : List gauge_Vertical) (x_9 : Int) (x_10 : Int) (x_11 : Int) : Option (Step ((List Int) × (List Int) × (List gauge_Vertical) × Int × Int × Int) (Step (Int × (List gauge_Vertical) × Int × Int) (Bool))) :=
  cond (decide (x_9 < ((x_1.length : Nat) : Int)))
  (Option.bind (getI x_8 x_9) fun e_5 =>
  Option.bind (kit_Stream_Within N (⟨tries, x_10, x_11⟩ : kit_Stream) e_5.Depth.Lo e_5.Depth.Hi) fun r_11 =>
  Option.bind (room ((depths_1 ++ [r_11.1])).length) fun un_2 =>
  Option.bind (kit_Stream_Within N (⟨tries, r_11.2.1, r_11.2.2⟩ : kit_Stream) e_5.Speed.Lo e_5.Speed.Hi) fun r_12 =>
  Option.bind (room ((speeds_1 ++ [r_12.1])).length) fun un_3 =>
  some (.cont ((depths_1 ++ [r_11.1]), (speeds_1 ++ [r_12.1]), x_8, W (x_9 + 1), r_12.2.1, r_12.2.2)))
  (some (.brk (depths_1, speeds_1, x_8, x_9, x_10, x_11)))
def law03_GaugeTrue_b16 (N : Nat) (tries : List Int) (r_3 : gauge_Gauging × Int × Int) (r_5 : api_Span × Int) (x : Int) (x_1 : List gauge_Vertical) (x_2 : Int) (x_3 : Int) : Option (Step (Int × (List gauge_Vertical) × Int × Int) (Bool)) :=
  cond (decide (x < 5))
  (Option.bind (loopO (fun s53 => law03_GaugeTrue_b53 N tries x_1 s53.1 s53.2.1 s53.2.2.1 s53.2.2.2.1 s53.2.2.2.2.1 s53.2.2.2.2.2) N (([] : List Int), ([] : List Int), x_1, 0, x_2, x_3)) fun x53 =>
  exK x53 (fun s53 => Option.bind (gauge_Real N (⟨r_3.1.Left, r_3.1.Right, s53.2.2.1⟩ : gauge_Gauging) s53.1 s53.2.1) fun r_10 =>
  cond (((r_10.2 != 0) || (decide (r_10.1 < r_5.1.Lo))) || (decide (r_5.1.Hi < r_10.1)))
  (some (.ret false))
  (some (.cont (W (x + 1), s53.2.2.1, s53.2.2.2.2.1, s53.2.2.2.2.2)))) some)
  (some (.brk (x, x_1, x_2, x_3)))
def law03_GaugeTrue (N : Nat) (numbers : List Int) (errors : List Int) (tries : List Int) : Option (Bool) :=
  Option.bind (kit_New N numbers) fun r =>
  Option.bind (law03_Section N (⟨numbers, r.1, r.2⟩ : kit_Stream) 12) fun r_1 =>
  Option.bind (kit_New N errors) fun r_2 =>
  Option.bind (law03_Gauged N (⟨errors, r_2.1, r_2.2⟩ : kit_Stream) r_1.1) fun r_3 =>
  Option.bind (kit_New N tries) fun r_4 =>
  Option.bind (gauge_Flow N r_3.1) fun r_5 =>
  Option.bind (gauge_Panels N r_3.1) fun r_6 =>
  cond (((r_5.2 != 0) || (r_6.2 != 0)) || (((r_6.1.length : Nat) : Int) != ((r_1.1.At.length : Nat) : Int)))
  (some false)
  (Option.bind (gauge_Real N r_3.1 r_1.1.Depth r_1.1.Speeds) fun r_7 =>
  cond (((r_7.2 != 0) || (decide (r_7.1 < r_5.1.Lo))) || (decide (r_5.1.Hi < r_7.1)))
  (some false)
  (Option.bind (loopO (fun s16 => law03_GaugeTrue_b16 N tries r_3 r_5 s16.1 s16.2.1 s16.2.2.1 s16.2.2.2) N (0, r_3.1.Verticals, r_4.1, r_4.2)) fun x16 =>
  exK x16 (fun s16 => Option.bind (loopO (fun s19 => law03_GaugeTrue_b19 N r_3 r_5 s19.1 s19.2.1 s19.2.2) N (r_6.1, 0, s16.2.1)) fun x19 =>
  exK x19 (fun s19 => Option.bind (law03_awake N) fun r_8 =>
  some r_8) some) some))
theorem law03_GaugeTrue_ok {N : Nat} {G : Pers} {Lf : List Ent} {w : World} (numbers : List Int) (errors : List Int) (tries : List Int) {numbers_p : Option Addr} {numbers_c : Nat} {errors_p : Option Addr} {errors_c : Nat} {tries_p : Option Addr} {tries_c : Nat} (h_numbers : Rd G 1 numbers_p numbers_c (numbers.map encI_u8)) (h_errors : Rd G 1 errors_p errors_c (errors.map encI_u8)) (h_tries : Rd G 1 tries_p tries_c (tries.map encI_u8)) (hc : Ctx G (Lf) w) {res : Bool} (hF : law03_GaugeTrue N numbers errors tries = some res) : Calls Try.prog 7 #[.slice numbers_p numbers.length numbers_c, .slice errors_p errors.length errors_c, .slice tries_p tries.length tries_c] w (fun e w => e = .returned (.bool res) ∧ Ctx G (Lf) w) := by
  unfold law03_GaugeTrue at hF
  refine fnIn (args := [.slice numbers_p numbers.length numbers_c, .slice errors_p errors.length errors_c, .slice tries_p tries.length tries_c]) Try.func7 rfl Try.ntmps7 rfl fun a hf => ?_
  refine wp_seq_k fun K1 h1 => ?_
  refine cReg ?_
  refine stP hf rfl rfl rfl (pA rfl) fun a hf => ?_
  refine cNil ?_
  refine h1 _ _ ?_
  refine wp_seq_k fun K2 h2 => ?_
  refine cReg ?_
  refine stP hf rfl rfl rfl (pM rfl) fun a hf => ?_
  obtain ⟨r, hr, hF⟩ := bnd_some hF
  refine stC (vs := [.slice numbers_p numbers.length numbers_c]) (caps := []) hf rfl rfl rfl en_11 rfl rfl rfl rfl (kit_New_ok numbers h_numbers hc hr) ?_
  rintro _ w ⟨b_1, rfl, hc⟩
  refine ⟨_, rfl, fun a hf => ?_⟩
  obtain ⟨r_1, hr_1, hF⟩ := bnd_some hF
  refine stC (vs := [.pointer (some ⟨b_1, 0, none⟩), .int .i64 12]) (caps := []) hf rfl rfl rfl en_21 rfl rfl rfl rfl (law03_Section_ok (⟨numbers, r.1, r.2⟩ : kit_Stream) 12 h_numbers (hc.pick k0) hr_1) ?_
  rintro _ w ⟨p_1, c_1, p_2, c_2, p_3, c_3, rfl, hc⟩
  refine ⟨_, rfl, fun a hf => ?_⟩
  refine stAl (cs := [.int .i64 0, .int .i64 0, .slice none 0 0, .slice none 0 0, .slice none 0 0]) hf hc rfl rfl zr_51 rfl fun b_2 a w hf hc => ?_
  refine stSt (vs := [.int .i64 r_1.1.Left, .int .i64 r_1.1.Right, .slice p_1 r_1.1.At.length c_1, .slice p_2 r_1.1.Depth.length c_2, .slice p_3 r_1.1.Speeds.length c_3]) hf hc rfl rfl rfl rfl sz_51 rfl rfl u0 fun w hc => ?_
  refine cNil ?_
  refine h2 _ _ ?_
  refine wp_seq_k fun K3 h3 => ?_
  obtain ⟨r_2, hr_2, hF⟩ := bnd_some hF
  obtain ⟨r_3, hr_3, hF⟩ := bnd_some hF
  replace hc := hc.nilRow 0 0
  replace hc := hc.nilRow 0 0
  replace hc := hc.nilRow 0 0
  refine regionE (fun θ => [⟨none, none, 1, .slice errors_p errors.length errors_c⟩, ⟨none, none, 2, .slice tries_p tries.length tries_c⟩, ⟨none, none, 7, .pointer (some ⟨b_2, 0, none⟩)⟩, ⟨some 0, none, 33, .slice errors_p errors.length errors_c⟩, ⟨some 1, none, 34, .pointer (some ⟨(θ 8).b, 0, none⟩)⟩, ⟨some 2, none, 35, .agg #[.int .i64 r_1.1.Left, .int .i64 r_1.1.Right, .slice p_1 r_1.1.At.length c_1, .slice p_2 r_1.1.Depth.length c_2, .slice p_3 r_1.1.Speeds.length c_3]⟩, ⟨some 3, none, 36, .agg #[.int .i64 r_3.1.Left, .int .i64 r_3.1.Right, .slice ((θ 24).p) r_3.1.Verticals.length ((θ 24).c)]⟩, ⟨some 4, none, 8, .pointer (some ⟨(θ 32).b, 0, none⟩)⟩]) (fun E θ => (bif E 5 then .box (θ 32).b [.int .i64 r_3.1.Left, .int .i64 r_3.1.Right, .slice ((θ 24).p) r_3.1.Verticals.length ((θ 24).c)] 48 else bif E 4 then .box (θ 32).b [.int .i64 0, .int .i64 0, .slice none 0 0] 48 else .row none 0 [] 0 0) :: (bif E 3 then .row ((θ 24).p) ((θ 24).c) (r_3.1.Verticals.map enc_gauge_Vertical) 61 5 else .row none 0 [] 0 0) :: (bif E 3 then .box (θ 8).b [.slice errors_p errors.length errors_c, .int .i64 r_3.2.1, .int .i64 r_3.2.2] 104 else bif E 1 then .box (θ 8).b [.slice errors_p errors.length errors_c, .int .i64 r_2.1, .int .i64 r_2.2] 104 else .row none 0 [] 0 0) :: .box b_2 [.int .i64 r_1.1.Left, .int .i64 r_1.1.Right, .slice p_1 r_1.1.At.length c_1, .slice p_2 r_1.1.Depth.length c_2, .slice p_3 r_1.1.Speeds.length c_3] 51 :: .row p_1 c_1 (r_1.1.At.map encI_i64) 3 1 :: .row p_2 c_2 (r_1.1.Depth.map encI_i64) 3 1 :: .row p_3 c_3 (r_1.1.Speeds.map encI_i64) 3 1 :: .box b_1 [.slice numbers_p numbers.length numbers_c, .int .i64 r_1.2.1, .int .i64 r_1.2.2] 104 :: Lf) [(3, 1), (5, 3), (5, 4)] (fun a w => ∃ (b_5 : Nat) (p_5 : Option Addr) (c_5 : Nat) (b_6 : Nat), Has 219 a [(2, .slice tries_p tries.length tries_c), (7, .pointer (some ⟨b_2, 0, none⟩)), (8, .pointer (some ⟨b_5, 0, none⟩))] ∧ Ctx G (.box b_5 [.int .i64 r_3.1.Left, .int .i64 r_3.1.Right, .slice p_5 r_3.1.Verticals.length c_5] 48 :: .row p_5 c_5 (r_3.1.Verticals.map enc_gauge_Vertical) 61 5 :: .box b_6 [.slice errors_p errors.length errors_c, .int .i64 r_3.2.1, .int .i64 r_3.2.2] 104 :: .box b_2 [.int .i64 r_1.1.Left, .int .i64 r_1.1.Right, .slice p_1 r_1.1.At.length c_1, .slice p_2 r_1.1.Depth.length c_2, .slice p_3 r_1.1.Speeds.length c_3] 51 :: .row p_1 c_1 (r_1.1.At.map encI_i64) 3 1 :: .row p_2 c_2 (r_1.1.Depth.map encI_i64) 3 1 :: .row p_3 c_3 (r_1.1.Speeds.map encI_i64) 3 1 :: .box b_1 [.slice numbers_p numbers.length numbers_c, .int .i64 r_1.2.1, .int .i64 r_1.2.2] 104 :: Lf) w) follows_mx (by kernel_rfl) (by kernel_rfl) (HasE.of hf ⟨rfl, rfl, rfl, trivial, trivial, trivial, trivial, trivial, trivial⟩) hc ⟨?_, ?_, ?_, ?_, ?_, ?_, trivial⟩ ?_ ?_
  · intro E θ a w hD hi hp he hc
    have hf := he.h0
    replace hf := hf.more he 0 rfl onT
    refine stP hf rfl rfl rfl (pM rfl) fun a hf => ?_
    refine cNil ?_
    refine xThenN ?_
    intro ds u hau
    refine ⟨θ, he.put0 hi hau hf rfl 3 rfl rfl, ?_⟩
    exact hc
  · intro E θ a w hD hi hp he hc
    have e0 := hp.of (k := 0) rfl
    have e3 := hD.f 0 rfl hi
    replace hc : Ctx G ((bif E 5 then .box (θ 32).b [.int .i64 r_3.1.Left, .int .i64 r_3.1.Right, .slice ((θ 24).p) r_3.1.Verticals.length ((θ 24).c)] 48 else bif E 4 then .box (θ 32).b [.int .i64 0, .int .i64 0, .slice none 0 0] 48 else .row none 0 [] 0 0) :: (bif E 3 then .row ((θ 24).p) ((θ 24).c) (r_3.1.Verticals.map enc_gauge_Vertical) 61 5 else .row none 0 [] 0 0) :: (bif E 3 then .box (θ 8).b [.slice errors_p errors.length errors_c, .int .i64 r_3.2.1, .int .i64 r_3.2.2] 104 else bif E 1 then .box (θ 8).b [.slice errors_p errors.length errors_c, .int .i64 r_2.1, .int .i64 r_2.2] 104 else .row none 0 [] 0 0) :: .box b_2 [.int .i64 r_1.1.Left, .int .i64 r_1.1.Right, .slice p_1 r_1.1.At.length c_1, .slice p_2 r_1.1.Depth.length c_2, .slice p_3 r_1.1.Speeds.length c_3] 51 :: .row p_1 c_1 (r_1.1.At.map encI_i64) 3 1 :: .row p_2 c_2 (r_1.1.Depth.map encI_i64) 3 1 :: .row p_3 c_3 (r_1.1.Speeds.map encI_i64) 3 1 :: .box b_1 [.slice numbers_p numbers.length numbers_c, .int .i64 r_1.2.1, .int .i64 r_1.2.2] 104 :: Lf) w := hc
    rw [hi, e3] at hc
    replace hc : Ctx G ((bif E 5 then .box (θ 32).b [.int .i64 r_3.1.Left, .int .i64 r_3.1.Right, .slice ((θ 24).p) r_3.1.Verticals.length ((θ 24).c)] 48 else bif E 4 then .box (θ 32).b [.int .i64 0, .int .i64 0, .slice none 0 0] 48 else .row none 0 [] 0 0) :: (bif false then .row ((θ 24).p) ((θ 24).c) (r_3.1.Verticals.map enc_gauge_Vertical) 61 5 else .row none 0 [] 0 0) :: .row none 0 [] 0 0 :: .box b_2 [.int .i64 r_1.1.Left, .int .i64 r_1.1.Right, .slice p_1 r_1.1.At.length c_1, .slice p_2 r_1.1.Depth.length c_2, .slice p_3 r_1.1.Speeds.length c_3] 51 :: .row p_1 c_1 (r_1.1.At.map encI_i64) 3 1 :: .row p_2 c_2 (r_1.1.Depth.map encI_i64) 3 1 :: .row p_3 c_3 (r_1.1.Speeds.map encI_i64) 3 1 :: .box b_1 [.slice numbers_p numbers.length numbers_c, .int .i64 r_1.2.1, .int .i64 r_1.2.2] 104 :: Lf) w := hc
    have hf := he.h0
    replace hf := hf.more he 3 rfl (onP e0)
    refine stC (vs := [.slice errors_p errors.length errors_c]) (caps := []) hf rfl rfl rfl en_11 rfl rfl rfl rfl (kit_New_ok errors h_errors hc hr_2) ?_
    rintro _ w ⟨b_3, rfl, hc⟩
    refine ⟨_, rfl, fun a hf => ?_⟩
    refine cNil ?_
    refine xThenN ?_
    intro ds u hau
    replace hc := hc.drop k3
    replace hc := hc.pick k0
    replace hc := hc.pick k2
    replace hc := hc.pick k2
    refine ⟨(setT θ 8 ⟨b_3, none, 0⟩), he.put hi hau hf rfl [] trivial ⟨qq, qq, qq, qq, qq, qq, qq, qq, trivial⟩, ?_⟩
    show Ctx G ((bif E 5 then .box (θ 32).b [.int .i64 r_3.1.Left, .int .i64 r_3.1.Right, .slice ((θ 24).p) r_3.1.Verticals.length ((θ 24).c)] 48 else bif E 4 then .box (θ 32).b [.int .i64 0, .int .i64 0, .slice none 0 0] 48 else .row none 0 [] 0 0) :: (bif E 3 then .row ((θ 24).p) ((θ 24).c) (r_3.1.Verticals.map enc_gauge_Vertical) 61 5 else .row none 0 [] 0 0) :: (bif E 3 then .box b_3 [.slice errors_p errors.length errors_c, .int .i64 r_3.2.1, .int .i64 r_3.2.2] 104 else bif true then .box b_3 [.slice errors_p errors.length errors_c, .int .i64 r_2.1, .int .i64 r_2.2] 104 else .row none 0 [] 0 0) :: .box b_2 [.int .i64 r_1.1.Left, .int .i64 r_1.1.Right, .slice p_1 r_1.1.At.length c_1, .slice p_2 r_1.1.Depth.length c_2, .slice p_3 r_1.1.Speeds.length c_3] 51 :: .row p_1 c_1 (r_1.1.At.map encI_i64) 3 1 :: .row p_2 c_2 (r_1.1.Depth.map encI_i64) 3 1 :: .row p_3 c_3 (r_1.1.Speeds.map encI_i64) 3 1 :: .box b_1 [.slice numbers_p numbers.length numbers_c, .int .i64 r_1.2.1, .int .i64 r_1.2.2] 104 :: Lf) w
    rw [e3]
    exact hc
  · intro E θ a w hD hi hp he hc
    have hf := he.h0
    replace hf := hf.more he 2 rfl onT
    refine stE hf hc rfl rfl rfl (eLdN (vs := [.int .i64 r_1.1.Left, .int .i64 r_1.1.Right, .slice p_1 r_1.1.At.length c_1, .slice p_2 r_1.1.Depth.length c_2, .slice p_3 r_1.1.Speeds.length c_3]) ag_51 rfl rfl (cells_box (n := 5) m3 rfl)) fun a w hf hc => ?_
    refine cNil ?_
    refine xThenN ?_
    intro ds u hau
    refine ⟨θ, he.put0 hi hau hf rfl 5 rfl rfl, ?_⟩
    exact hc
  · intro E θ a w hD hi hp he hc
    have e1 := hp.of (k := 1) rfl
    have e2 := hp.of (k := 2) rfl
    have e5 := hD.f 1 rfl hi
    replace hc : Ctx G ((bif E 5 then .box (θ 32).b [.int .i64 r_3.1.Left, .int .i64 r_3.1.Right, .slice ((θ 24).p) r_3.1.Verticals.length ((θ 24).c)] 48 else bif E 4 then .box (θ 32).b [.int .i64 0, .int .i64 0, .slice none 0 0] 48 else .row none 0 [] 0 0) :: (bif E 3 then .row ((θ 24).p) ((θ 24).c) (r_3.1.Verticals.map enc_gauge_Vertical) 61 5 else .row none 0 [] 0 0) :: (bif E 3 then .box (θ 8).b [.slice errors_p errors.length errors_c, .int .i64 r_3.2.1, .int .i64 r_3.2.2] 104 else bif E 1 then .box (θ 8).b [.slice errors_p errors.length errors_c, .int .i64 r_2.1, .int .i64 r_2.2] 104 else .row none 0 [] 0 0) :: .box b_2 [.int .i64 r_1.1.Left, .int .i64 r_1.1.Right, .slice p_1 r_1.1.At.length c_1, .slice p_2 r_1.1.Depth.length c_2, .slice p_3 r_1.1.Speeds.length c_3] 51 :: .row p_1 c_1 (r_1.1.At.map encI_i64) 3 1 :: .row p_2 c_2 (r_1.1.Depth.map encI_i64) 3 1 :: .row p_3 c_3 (r_1.1.Speeds.map encI_i64) 3 1 :: .box b_1 [.slice numbers_p numbers.length numbers_c, .int .i64 r_1.2.1, .int .i64 r_1.2.2] 104 :: Lf) w := hc
    rw [hi, e1, e5] at hc
    replace hc : Ctx G ((bif false then .box (θ 32).b [.int .i64 r_3.1.Left, .int .i64 r_3.1.Right, .slice ((θ 24).p) r_3.1.Verticals.length ((θ 24).c)] 48 else bif E 4 then .box (θ 32).b [.int .i64 0, .int .i64 0, .slice none 0 0] 48 else .row none 0 [] 0 0) :: .row none 0 [] 0 0 :: .box (θ 8).b [.slice errors_p errors.length errors_c, .int .i64 r_2.1, .int .i64 r_2.2] 104 :: .box b_2 [.int .i64 r_1.1.Left, .int .i64 r_1.1.Right, .slice p_1 r_1.1.At.length c_1, .slice p_2 r_1.1.Depth.length c_2, .slice p_3 r_1.1.Speeds.length c_3] 51 :: .row p_1 c_1 (r_1.1.At.map encI_i64) 3 1 :: .row p_2 c_2 (r_1.1.Depth.map encI_i64) 3 1 :: .row p_3 c_3 (r_1.1.Speeds.map encI_i64) 3 1 :: .box b_1 [.slice numbers_p numbers.length numbers_c, .int .i64 r_1.2.1, .int .i64 r_1.2.2] 104 :: Lf) w := hc
    have hf := he.h0
    replace hf := hf.more he 4 rfl (onP e1)
    replace hf := hf.more he 5 rfl (onP e2)
    obtain ⟨G1, hle1, hrd1, hc, hth1⟩ := lend hc k4
    obtain ⟨G2, hle2, hrd2, hc, hth2⟩ := lend hc k4
    obtain ⟨G3, hle3, hrd3, hc, hth3⟩ := lend hc k4
    refine stC (vs := [.pointer (some ⟨(θ 8).b, 0, none⟩), .agg #[.int .i64 r_1.1.Left, .int .i64 r_1.1.Right, .slice p_1 r_1.1.At.length c_1, .slice p_2 r_1.1.Depth.length c_2, .slice p_3 r_1.1.Speeds.length c_3]]) (caps := []) hf rfl rfl rfl en_20 rfl rfl rfl rfl (law03_Gauged_ok (⟨errors, r_2.1, r_2.2⟩ : kit_Stream) r_1.1 (((h_errors.mono hle1).mono hle2).mono hle3) ((hrd1.mono hle2).mono hle3) (hrd2.mono hle3) hrd3 (hc.pick k2) hr_3) ?_
    rintro _ w ⟨p_4, c_4, rfl, hc⟩
    refine ⟨_, rfl, fun a hf => ?_⟩
    replace hc := hth3 _ _ hc
    replace hc := hth2 _ _ hc
    replace hc := hth1 _ _ hc
    refine cNil ?_
    refine xThenN ?_
    intro ds u hau
    replace hc := hc.drop k6
    replace hc := hc.pick k2
    replace hc := hc.pick k2
    replace hc := hc.pick k2
    replace hc := hc.pick k6
    replace hc := hc.pick k5
    replace hc := hc.pick k5
    replace hc := hc.pick k6
    refine ⟨(setT θ 24 ⟨0, p_4, c_4⟩), he.put hi hau hf rfl [] trivial ⟨qq, qq, qq, qq, qq, qq, qq, qq, trivial⟩, ?_⟩
    show Ctx G ((bif E 5 then .box (θ 32).b [.int .i64 r_3.1.Left, .int .i64 r_3.1.Right, .slice p_4 r_3.1.Verticals.length c_4] 48 else bif E 4 then .box (θ 32).b [.int .i64 0, .int .i64 0, .slice none 0 0] 48 else .row none 0 [] 0 0) :: (bif true then .row p_4 c_4 (r_3.1.Verticals.map enc_gauge_Vertical) 61 5 else .row none 0 [] 0 0) :: (bif true then .box (θ 8).b [.slice errors_p errors.length errors_c, .int .i64 r_3.2.1, .int .i64 r_3.2.2] 104 else bif E 1 then .box (θ 8).b [.slice errors_p errors.length errors_c, .int .i64 r_2.1, .int .i64 r_2.2] 104 else .row none 0 [] 0 0) :: .box b_2 [.int .i64 r_1.1.Left, .int .i64 r_1.1.Right, .slice p_1 r_1.1.At.length c_1, .slice p_2 r_1.1.Depth.length c_2, .slice p_3 r_1.1.Speeds.length c_3] 51 :: .row p_1 c_1 (r_1.1.At.map encI_i64) 3 1 :: .row p_2 c_2 (r_1.1.Depth.map encI_i64) 3 1 :: .row p_3 c_3 (r_1.1.Speeds.map encI_i64) 3 1 :: .box b_1 [.slice numbers_p numbers.length numbers_c, .int .i64 r_1.2.1, .int .i64 r_1.2.2] 104 :: Lf) w
    rw [e1, e5]
    exact hc
  · intro E θ a w hD hi hp he hc
    have e5 := hD.f 2 rfl hi
    replace hc : Ctx G ((bif E 5 then .box (θ 32).b [.int .i64 r_3.1.Left, .int .i64 r_3.1.Right, .slice ((θ 24).p) r_3.1.Verticals.length ((θ 24).c)] 48 else bif E 4 then .box (θ 32).b [.int .i64 0, .int .i64 0, .slice none 0 0] 48 else .row none 0 [] 0 0) :: (bif E 3 then .row ((θ 24).p) ((θ 24).c) (r_3.1.Verticals.map enc_gauge_Vertical) 61 5 else .row none 0 [] 0 0) :: (bif E 3 then .box (θ 8).b [.slice errors_p errors.length errors_c, .int .i64 r_3.2.1, .int .i64 r_3.2.2] 104 else bif E 1 then .box (θ 8).b [.slice errors_p errors.length errors_c, .int .i64 r_2.1, .int .i64 r_2.2] 104 else .row none 0 [] 0 0) :: .box b_2 [.int .i64 r_1.1.Left, .int .i64 r_1.1.Right, .slice p_1 r_1.1.At.length c_1, .slice p_2 r_1.1.Depth.length c_2, .slice p_3 r_1.1.Speeds.length c_3] 51 :: .row p_1 c_1 (r_1.1.At.map encI_i64) 3 1 :: .row p_2 c_2 (r_1.1.Depth.map encI_i64) 3 1 :: .row p_3 c_3 (r_1.1.Speeds.map encI_i64) 3 1 :: .box b_1 [.slice numbers_p numbers.length numbers_c, .int .i64 r_1.2.1, .int .i64 r_1.2.2] 104 :: Lf) w := hc
    rw [hi, e5] at hc
    replace hc : Ctx G (.row none 0 [] 0 0 :: (bif E 3 then .row ((θ 24).p) ((θ 24).c) (r_3.1.Verticals.map enc_gauge_Vertical) 61 5 else .row none 0 [] 0 0) :: (bif E 3 then .box (θ 8).b [.slice errors_p errors.length errors_c, .int .i64 r_3.2.1, .int .i64 r_3.2.2] 104 else bif E 1 then .box (θ 8).b [.slice errors_p errors.length errors_c, .int .i64 r_2.1, .int .i64 r_2.2] 104 else .row none 0 [] 0 0) :: .box b_2 [.int .i64 r_1.1.Left, .int .i64 r_1.1.Right, .slice p_1 r_1.1.At.length c_1, .slice p_2 r_1.1.Depth.length c_2, .slice p_3 r_1.1.Speeds.length c_3] 51 :: .row p_1 c_1 (r_1.1.At.map encI_i64) 3 1 :: .row p_2 c_2 (r_1.1.Depth.map encI_i64) 3 1 :: .row p_3 c_3 (r_1.1.Speeds.map encI_i64) 3 1 :: .box b_1 [.slice numbers_p numbers.length numbers_c, .int .i64 r_1.2.1, .int .i64 r_1.2.2] 104 :: Lf) w := hc
    have hf := he.h0
    refine stAl (cs := [.int .i64 0, .int .i64 0, .slice none 0 0]) hf hc rfl rfl zr_48 rfl fun b_4 a w hf hc => ?_
    refine cNil ?_
    refine xThenN ?_
    intro ds u hau
    replace hc := hc.drop k1
    refine ⟨(setT θ 32 ⟨b_4, none, 0⟩), he.put hi hau hf rfl [] trivial ⟨qq, qq, qq, qq, qq, qq, qq, qq, trivial⟩, ?_⟩
    show Ctx G ((bif E 5 then .box b_4 [.int .i64 r_3.1.Left, .int .i64 r_3.1.Right, .slice ((θ 24).p) r_3.1.Verticals.length ((θ 24).c)] 48 else bif true then .box b_4 [.int .i64 0, .int .i64 0, .slice none 0 0] 48 else .row none 0 [] 0 0) :: (bif E 3 then .row ((θ 24).p) ((θ 24).c) (r_3.1.Verticals.map enc_gauge_Vertical) 61 5 else .row none 0 [] 0 0) :: (bif E 3 then .box (θ 8).b [.slice errors_p errors.length errors_c, .int .i64 r_3.2.1, .int .i64 r_3.2.2] 104 else bif E 1 then .box (θ 8).b [.slice errors_p errors.length errors_c, .int .i64 r_2.1, .int .i64 r_2.2] 104 else .row none 0 [] 0 0) :: .box b_2 [.int .i64 r_1.1.Left, .int .i64 r_1.1.Right, .slice p_1 r_1.1.At.length c_1, .slice p_2 r_1.1.Depth.length c_2, .slice p_3 r_1.1.Speeds.length c_3] 51 :: .row p_1 c_1 (r_1.1.At.map encI_i64) 3 1 :: .row p_2 c_2 (r_1.1.Depth.map encI_i64) 3 1 :: .row p_3 c_3 (r_1.1.Speeds.map encI_i64) 3 1 :: .box b_1 [.slice numbers_p numbers.length numbers_c, .int .i64 r_1.2.1, .int .i64 r_1.2.2] 104 :: Lf) w
    rw [e5]
    exact hc
  · intro E θ a w hD hi hp he hc
    have e3 := hp.of (k := 3) rfl
    have e4 := hp.of (k := 4) rfl
    replace hc : Ctx G ((bif E 5 then .box (θ 32).b [.int .i64 r_3.1.Left, .int .i64 r_3.1.Right, .slice ((θ 24).p) r_3.1.Verticals.length ((θ 24).c)] 48 else bif E 4 then .box (θ 32).b [.int .i64 0, .int .i64 0, .slice none 0 0] 48 else .row none 0 [] 0 0) :: (bif E 3 then .row ((θ 24).p) ((θ 24).c) (r_3.1.Verticals.map enc_gauge_Vertical) 61 5 else .row none 0 [] 0 0) :: (bif E 3 then .box (θ 8).b [.slice errors_p errors.length errors_c, .int .i64 r_3.2.1, .int .i64 r_3.2.2] 104 else bif E 1 then .box (θ 8).b [.slice errors_p errors.length errors_c, .int .i64 r_2.1, .int .i64 r_2.2] 104 else .row none 0 [] 0 0) :: .box b_2 [.int .i64 r_1.1.Left, .int .i64 r_1.1.Right, .slice p_1 r_1.1.At.length c_1, .slice p_2 r_1.1.Depth.length c_2, .slice p_3 r_1.1.Speeds.length c_3] 51 :: .row p_1 c_1 (r_1.1.At.map encI_i64) 3 1 :: .row p_2 c_2 (r_1.1.Depth.map encI_i64) 3 1 :: .row p_3 c_3 (r_1.1.Speeds.map encI_i64) 3 1 :: .box b_1 [.slice numbers_p numbers.length numbers_c, .int .i64 r_1.2.1, .int .i64 r_1.2.2] 104 :: Lf) w := hc
    rw [e4, hi] at hc
    replace hc : Ctx G (.box (θ 32).b [.int .i64 0, .int .i64 0, .slice none 0 0] 48 :: (bif E 3 then .row ((θ 24).p) ((θ 24).c) (r_3.1.Verticals.map enc_gauge_Vertical) 61 5 else .row none 0 [] 0 0) :: (bif E 3 then .box (θ 8).b [.slice errors_p errors.length errors_c, .int .i64 r_3.2.1, .int .i64 r_3.2.2] 104 else bif E 1 then .box (θ 8).b [.slice errors_p errors.length errors_c, .int .i64 r_2.1, .int .i64 r_2.2] 104 else .row none 0 [] 0 0) :: .box b_2 [.int .i64 r_1.1.Left, .int .i64 r_1.1.Right, .slice p_1 r_1.1.At.length c_1, .slice p_2 r_1.1.Depth.length c_2, .slice p_3 r_1.1.Speeds.length c_3] 51 :: .row p_1 c_1 (r_1.1.At.map encI_i64) 3 1 :: .row p_2 c_2 (r_1.1.Depth.map encI_i64) 3 1 :: .row p_3 c_3 (r_1.1.Speeds.map encI_i64) 3 1 :: .box b_1 [.slice numbers_p numbers.length numbers_c, .int .i64 r_1.2.1, .int .i64 r_1.2.2] 104 :: Lf) w := hc
    have hf := he.h0
    replace hf := hf.more he 6 rfl (onP e3)
    replace hf := hf.more he 7 rfl (onP e4)
    refine stSt (vs := [.int .i64 r_3.1.Left, .int .i64 r_3.1.Right, .slice ((θ 24).p) r_3.1.Verticals.length ((θ 24).c)]) hf hc rfl rfl rfl rfl sz_48 rfl rfl u0 fun w hc => ?_
    refine cNil ?_
    refine xThenN ?_
    intro ds u hau
    refine ⟨θ, he.stay0 hi hau hf rfl, ?_⟩
    show Ctx G ((bif true then .box (θ 32).b [.int .i64 r_3.1.Left, .int .i64 r_3.1.Right, .slice ((θ 24).p) r_3.1.Verticals.length ((θ 24).c)] 48 else bif E 4 then .box (θ 32).b [.int .i64 0, .int .i64 0, .slice none 0 0] 48 else .row none 0 [] 0 0) :: (bif E 3 then .row ((θ 24).p) ((θ 24).c) (r_3.1.Verticals.map enc_gauge_Vertical) 61 5 else .row none 0 [] 0 0) :: (bif E 3 then .box (θ 8).b [.slice errors_p errors.length errors_c, .int .i64 r_3.2.1, .int .i64 r_3.2.2] 104 else bif E 1 then .box (θ 8).b [.slice errors_p errors.length errors_c, .int .i64 r_2.1, .int .i64 r_2.2] 104 else .row none 0 [] 0 0) :: .box b_2 [.int .i64 r_1.1.Left, .int .i64 r_1.1.Right, .slice p_1 r_1.1.At.length c_1, .slice p_2 r_1.1.Depth.length c_2, .slice p_3 r_1.1.Speeds.length c_3] 51 :: .row p_1 c_1 (r_1.1.At.map encI_i64) 3 1 :: .row p_2 c_2 (r_1.1.Depth.map encI_i64) 3 1 :: .row p_3 c_3 (r_1.1.Speeds.map encI_i64) 3 1 :: .box b_1 [.slice numbers_p numbers.length numbers_c, .int .i64 r_1.2.1, .int .i64 r_1.2.2] 104 :: Lf) w
    rw [e4]
    exact hc
  · intro E θ a w hall he hc
    have hf := he.h0
    have e1 := hall 1 rfl
    have e3 := hall 3 rfl
    have e4 := hall 4 rfl
    have e5 := hall 5 rfl
    replace hf := hf.more he 7 rfl (onP e4)
    replace hf := hf.more he 2 rfl (onT)
    replace hf := hf.more he 1 rfl (onT)
    replace hc : Ctx G ((bif E 5 then .box (θ 32).b [.int .i64 r_3.1.Left, .int .i64 r_3.1.Right, .slice ((θ 24).p) r_3.1.Verticals.length ((θ 24).c)] 48 else bif E 4 then .box (θ 32).b [.int .i64 0, .int .i64 0, .slice none 0 0] 48 else .row none 0 [] 0 0) :: (bif E 3 then .row ((θ 24).p) ((θ 24).c) (r_3.1.Verticals.map enc_gauge_Vertical) 61 5 else .row none 0 [] 0 0) :: (bif E 3 then .box (θ 8).b [.slice errors_p errors.length errors_c, .int .i64 r_3.2.1, .int .i64 r_3.2.2] 104 else bif E 1 then .box (θ 8).b [.slice errors_p errors.length errors_c, .int .i64 r_2.1, .int .i64 r_2.2] 104 else .row none 0 [] 0 0) :: .box b_2 [.int .i64 r_1.1.Left, .int .i64 r_1.1.Right, .slice p_1 r_1.1.At.length c_1, .slice p_2 r_1.1.Depth.length c_2, .slice p_3 r_1.1.Speeds.length c_3] 51 :: .row p_1 c_1 (r_1.1.At.map encI_i64) 3 1 :: .row p_2 c_2 (r_1.1.Depth.map encI_i64) 3 1 :: .row p_3 c_3 (r_1.1.Speeds.map encI_i64) 3 1 :: .box b_1 [.slice numbers_p numbers.length numbers_c, .int .i64 r_1.2.1, .int .i64 r_1.2.2] 104 :: Lf) w := hc
    rw [e1, e3, e4, e5] at hc
    exact ⟨(θ 32).b, (θ 24).p, (θ 24).c, (θ 8).b, hf.keep ⟨rfl, rfl, rfl, trivial⟩, hc⟩
  rintro a w ⟨b_5, p_5, c_5, b_6, hf, hc⟩
  refine h3 _ _ ?_
  refine wp_seq_k fun K4 h4 => ?_
  refine cReg ?_
  refine stP hf rfl rfl rfl (pM rfl) fun a hf => ?_
  obtain ⟨r_4, hr_4, hF⟩ := bnd_some hF
  refine stC (vs := [.slice tries_p tries.length tries_c]) (caps := []) hf rfl rfl rfl en_11 rfl rfl rfl rfl (kit_New_ok tries h_tries hc hr_4) ?_
  rintro _ w ⟨b_7, rfl, hc⟩
  refine ⟨_, rfl, fun a hf => ?_⟩
  refine stP hf rfl rfl rfl (pA rfl) fun a hf => ?_
  refine cNil ?_
  refine h4 _ _ ?_
  refine wp_seq_k fun K5 h5 => ?_
  refine cReg ?_
  refine stE hf hc rfl rfl rfl (eLdN (vs := [.int .i64 r_3.1.Left, .int .i64 r_3.1.Right, .slice p_5 r_3.1.Verticals.length c_5]) ag_48 rfl rfl (cells_box (n := 3) m1 rfl)) fun a w hf hc => ?_
  obtain ⟨r_5, hr_5, hF⟩ := bnd_some hF
  refine stE hf hc rfl rfl rfl (eC (v := .tuple #[.agg #[.int .i64 r_5.1.Lo, .int .i64 r_5.1.Hi], .int .i64 r_5.2]) (vs := [.agg #[.int .i64 r_3.1.Left, .int .i64 r_3.1.Right, .slice p_5 r_3.1.Verticals.length c_5]]) (caps := []) en_27 rfl rfl rfl rfl (fun w hc => by obtain ⟨G1, hle1, hrd1, hc, hth1⟩ := lend hc k2; exact (gauge_Flow_ok r_3.1 hrd1 hc hr_5).mono fun e w h => ⟨h.1, ((hth1 _ _ h.2).unpick k2)⟩)) fun a w hf hc => ?_
  refine stP hf rfl rfl rfl (pM rfl) fun a hf => ?_
  refine stP hf rfl rfl rfl (pX rfl rfl) fun a hf => ?_
  refine stP hf rfl rfl rfl (pX rfl rfl) fun a hf => ?_
  refine stAl (cs := [.int .i64 0, .int .i64 0]) hf hc rfl rfl zr_24 rfl fun b_8 a w hf hc => ?_
  refine stSt (vs := [.int .i64 r_5.1.Lo, .int .i64 r_5.1.Hi]) hf hc rfl rfl rfl rfl sz_24 rfl rfl u0 fun w hc => ?_
  refine stP hf rfl rfl rfl (pA rfl) fun a hf => ?_
  refine cNil ?_
  refine h5 _ _ ?_
  refine wp_seq_k fun K6 h6 => ?_
  refine cReg ?_
  refine stE hf hc rfl rfl rfl (eLdN (vs := [.int .i64 r_3.1.Left, .int .i64 r_3.1.Right, .slice p_5 r_3.1.Verticals.length c_5]) ag_48 rfl rfl (cells_box (n := 3) m2 rfl)) fun a w hf hc => ?_
  obtain ⟨r_6, hr_6, hF⟩ := bnd_some hF
  obtain ⟨G1, hle1, hrd1, hc, hth1⟩ := lend hc k3
  refine stC (vs := [.agg #[.int .i64 r_3.1.Left, .int .i64 r_3.1.Right, .slice p_5 r_3.1.Verticals.length c_5]]) (caps := []) hf rfl rfl rfl en_31 rfl rfl rfl rfl (gauge_Panels_ok r_3.1 hrd1 hc hr_6) ?_
  rintro _ w ⟨p_6, c_6, rfl, hc⟩
  refine ⟨_, rfl, fun a hf => ?_⟩
  replace hc := hth1 _ _ hc
  refine stP hf rfl rfl rfl (pM rfl) fun a hf => ?_
  refine stP hf rfl rfl rfl (pX rfl rfl) fun a hf => ?_
  refine stP hf rfl rfl rfl (pX rfl rfl) fun a hf => ?_
  refine stP hf rfl rfl rfl (pA rfl) fun a hf => ?_
  refine stP hf rfl rfl rfl (pA rfl) fun a hf => ?_
  refine cNil ?_
  refine h6 _ _ ?_
  refine wp_seq_k fun K7 h7 => ?_
  refine wp_seq_k fun K8 h8 => ?_
  refine cReg ?_
  refine stP hf rfl rfl rfl (pM rfl) fun a hf => ?_
  refine stP hf rfl rfl rfl (pNe rfl rfl) fun a hf => ?_
  refine stP hf rfl rfl rfl (pM rfl) fun a hf => ?_
  refine stCut 3 (fun a w => Has 219 a [(7, .pointer (some ⟨b_2, 0, none⟩)), (8, .pointer (some ⟨b_5, 0, none⟩)), (9, .pointer (some ⟨b_7, 0, none⟩)), (10, .pointer (some ⟨b_8, 0, none⟩)), (11, .int .i64 r_5.2), (12, .slice p_6 r_6.1.length c_6), (13, .int .i64 r_6.2), (49, .int .i64 r_5.2), (50, .bool (r_5.2 != 0)), (51, .bool (r_5.2 != 0)), (54, .bool ((r_5.2 != 0) || (r_6.2 != 0)))] ∧ Ctx G (.row p_5 c_5 (r_3.1.Verticals.map enc_gauge_Vertical) 61 5 :: .row p_6 c_6 (r_6.1.map enc_api_Span) 24 2 :: .box b_8 [.int .i64 r_5.1.Lo, .int .i64 r_5.1.Hi] 24 :: .box b_7 [.slice tries_p tries.length tries_c, .int .i64 r_4.1, .int .i64 r_4.2] 104 :: .box b_5 [.int .i64 r_3.1.Left, .int .i64 r_3.1.Right, .slice p_5 r_3.1.Verticals.length c_5] 48 :: .box b_6 [.slice errors_p errors.length errors_c, .int .i64 r_3.2.1, .int .i64 r_3.2.2] 104 :: .box b_2 [.int .i64 r_1.1.Left, .int .i64 r_1.1.Right, .slice p_1 r_1.1.At.length c_1, .slice p_2 r_1.1.Depth.length c_2, .slice p_3 r_1.1.Speeds.length c_3] 51 :: .row p_1 c_1 (r_1.1.At.map encI_i64) 3 1 :: .row p_2 c_2 (r_1.1.Depth.map encI_i64) 3 1 :: .row p_3 c_3 (r_1.1.Speeds.map encI_i64) 3 1 :: .box b_1 [.slice numbers_p numbers.length numbers_c, .int .i64 r_1.2.1, .int .i64 r_1.2.2] 104 :: Lf) w) ?_ ?_
  · cases hb : (r_5.2 != 0)
    · rw [hb] at hf
      refine stP hf rfl rfl rfl (pM rfl) fun a hf => ?_
      refine stP hf rfl rfl rfl (pNe rfl rfl) fun a hf => ?_
      refine stP hf rfl rfl rfl (pPf rfl rfl) fun a hf => ?_
      exact cNil ⟨hf.keep ⟨rfl, rfl, rfl, rfl, rfl, rfl, rfl, rfl, rfl, rfl, rfl, trivial⟩, hc⟩
    · rw [hb] at hf
      refine stS hf rfl rfl rfl fun a hf => ?_
      refine stS hf rfl rfl rfl fun a hf => ?_
      refine stP hf rfl rfl rfl (pPt rfl rfl) fun a hf => ?_
      exact cNil ⟨hf.keep ⟨rfl, rfl, rfl, rfl, rfl, rfl, rfl, rfl, rfl, rfl, rfl, trivial⟩, hc⟩
  intro a w ⟨hf, hc⟩
  refine stP hf rfl rfl rfl (pM rfl) fun a hf => ?_
  refine stCut 7 (fun a w => Has 219 a [(7, .pointer (some ⟨b_2, 0, none⟩)), (8, .pointer (some ⟨b_5, 0, none⟩)), (9, .pointer (some ⟨b_7, 0, none⟩)), (10, .pointer (some ⟨b_8, 0, none⟩)), (11, .int .i64 r_5.2), (12, .slice p_6 r_6.1.length c_6), (13, .int .i64 r_6.2), (49, .int .i64 r_5.2), (50, .bool (r_5.2 != 0)), (51, .bool (r_5.2 != 0)), (54, .bool ((r_5.2 != 0) || (r_6.2 != 0))), (55, .bool ((r_5.2 != 0) || (r_6.2 != 0))), (62, .bool (((r_5.2 != 0) || (r_6.2 != 0)) || (((r_6.1.length : Nat) : Int) != ((r_1.1.At.length : Nat) : Int))))] ∧ Ctx G (.row p_5 c_5 (r_3.1.Verticals.map enc_gauge_Vertical) 61 5 :: .row p_6 c_6 (r_6.1.map enc_api_Span) 24 2 :: .box b_8 [.int .i64 r_5.1.Lo, .int .i64 r_5.1.Hi] 24 :: .box b_7 [.slice tries_p tries.length tries_c, .int .i64 r_4.1, .int .i64 r_4.2] 104 :: .box b_5 [.int .i64 r_3.1.Left, .int .i64 r_3.1.Right, .slice p_5 r_3.1.Verticals.length c_5] 48 :: .box b_6 [.slice errors_p errors.length errors_c, .int .i64 r_3.2.1, .int .i64 r_3.2.2] 104 :: .box b_2 [.int .i64 r_1.1.Left, .int .i64 r_1.1.Right, .slice p_1 r_1.1.At.length c_1, .slice p_2 r_1.1.Depth.length c_2, .slice p_3 r_1.1.Speeds.length c_3] 51 :: .row p_1 c_1 (r_1.1.At.map encI_i64) 3 1 :: .row p_2 c_2 (r_1.1.Depth.map encI_i64) 3 1 :: .row p_3 c_3 (r_1.1.Speeds.map encI_i64) 3 1 :: .box b_1 [.slice numbers_p numbers.length numbers_c, .int .i64 r_1.2.1, .int .i64 r_1.2.2] 104 :: Lf) w) ?_ ?_
  · cases hb : ((r_5.2 != 0) || (r_6.2 != 0))
    · rw [hb] at hf
      refine stP hf rfl rfl rfl (pM rfl) fun a hf => ?_
      refine stP hf rfl rfl rfl (pLenS Try.underlying72 rfl) fun a hf => ?_
      refine stP hf rfl rfl rfl (pFA fa_51_2 rfl) fun a hf => ?_
      refine stE hf hc rfl rfl rfl (eLd1 sc_43 rfl (cell_box m6 rfl)) fun a w hf hc => ?_
      refine stP hf rfl rfl rfl (pLenS Try.underlying43 rfl) fun a hf => ?_
      refine stP hf rfl rfl rfl (pNe rfl rfl) fun a hf => ?_
      refine stP hf rfl rfl rfl (pPf rfl rfl) fun a hf => ?_
      exact cNil ⟨hf.keep ⟨rfl, rfl, rfl, rfl, rfl, rfl, rfl, rfl, rfl, rfl, rfl, rfl, rfl, trivial⟩, hc⟩
    · rw [hb] at hf
      refine stS hf rfl rfl rfl fun a hf => ?_
      refine stS hf rfl rfl rfl fun a hf => ?_
      refine stS hf rfl rfl rfl fun a hf => ?_
      refine stS hf rfl rfl rfl fun a hf => ?_
      refine stS hf rfl rfl rfl fun a hf => ?_
      refine stS hf rfl rfl rfl fun a hf => ?_
      refine stP hf rfl rfl rfl (pPt rfl rfl) fun a hf => ?_
      exact cNil ⟨hf.keep ⟨rfl, rfl, rfl, rfl, rfl, rfl, rfl, rfl, rfl, rfl, rfl, rfl, rfl, trivial⟩, hc⟩
  intro a w ⟨hf, hc⟩
  refine cNil ?_
  refine h8 _ _ ?_
  refine cCond (b := (((r_5.2 != 0) || (r_6.2 != 0)) || (((r_6.1.length : Nat) : Int) != ((r_1.1.At.length : Nat) : Int)))) hf rfl (fun hb => ?_) (fun hb => ?_)
  · replace hF := condT hb hF
    clear hb
    refine wp_seq_k fun K9 h9 => ?_
    refine cReg ?_
    refine stP hf rfl rfl rfl (pA rfl) fun a hf => ?_
    refine cNil ?_
    refine h9 _ _ ?_
    refine wp_ret ?_
    refine xThenR ?_
    obtain rfl := Option.some.inj hF
    replace hc := hc.drop k10
    replace hc := hc.drop k9
    replace hc := hc.drop k8
    replace hc := hc.drop k7
    replace hc := hc.drop k6
    replace hc := hc.drop k5
    replace hc := hc.drop k4
    replace hc := hc.drop k3
    replace hc := hc.drop k2
    replace hc := hc.drop k1
    replace hc := hc.drop k0
    exact fnOut1 (by simp) rfl Try.results7 hf hc (show look _ 6 = _ from rfl) ⟨rfl, hc⟩
  · replace hF := condF hb hF
    clear hb
    refine wp_skip ?_
    refine h7 _ _ ?_
    refine wp_seq_k fun K10 h10 => ?_
    refine cReg ?_
    refine stE hf hc rfl rfl rfl (eLdN (vs := [.int .i64 r_3.1.Left, .int .i64 r_3.1.Right, .slice p_5 r_3.1.Verticals.length c_5]) ag_48 rfl rfl (cells_box (n := 3) m4 rfl)) fun a w hf hc => ?_
    refine stP hf rfl rfl rfl (pFA fa_51_3 rfl) fun a hf => ?_
    refine stE hf hc rfl rfl rfl (eLd1 sc_43 rfl (cell_box m6 rfl)) fun a w hf hc => ?_
    refine stP hf rfl rfl rfl (pFA fa_51_4 rfl) fun a hf => ?_
    refine stE hf hc rfl rfl rfl (eLd1 sc_43 rfl (cell_box m6 rfl)) fun a w hf hc => ?_
    obtain ⟨r_7, hr_7, hF⟩ := bnd_some hF
    refine stE hf hc rfl rfl rfl (eC (v := .tuple #[.int .i64 r_7.1, .int .i64 r_7.2]) (vs := [.agg #[.int .i64 r_3.1.Left, .int .i64 r_3.1.Right, .slice p_5 r_3.1.Verticals.length c_5], .slice p_2 r_1.1.Depth.length c_2, .slice p_3 r_1.1.Speeds.length c_3]) (caps := []) en_33 rfl rfl rfl rfl (fun w hc => by obtain ⟨G1, hle1, hrd1, hc, hth1⟩ := lend hc k0; obtain ⟨G2, hle2, hrd2, hc, hth2⟩ := lend hc k7; obtain ⟨G3, hle3, hrd3, hc, hth3⟩ := lend hc k7; exact (gauge_Real_ok r_3.1 r_1.1.Depth r_1.1.Speeds ((hrd1.mono hle2).mono hle3) (hrd2.mono hle3) hrd3 hc hr_7).mono fun e w h => ⟨h.1, ((hth1 _ _ ((hth2 _ _ ((hth3 _ _ h.2).unpick k7)).unpick k7)).unpick k0)⟩)) fun a w hf hc => ?_
    refine stP hf rfl rfl rfl (pM rfl) fun a hf => ?_
    refine stP hf rfl rfl rfl (pX rfl rfl) fun a hf => ?_
    refine stP hf rfl rfl rfl (pX rfl rfl) fun a hf => ?_
    refine stP hf rfl rfl rfl (pA rfl) fun a hf => ?_
    refine stP hf rfl rfl rfl (pA rfl) fun a hf => ?_
    refine cNil ?_
    refine h10 _ _ ?_
    refine wp_seq_k fun K11 h11 => ?_
    refine wp_seq_k fun K12 h12 => ?_
    refine cReg ?_
    refine stP hf rfl rfl rfl (pM rfl) fun a hf => ?_
    refine stP hf rfl rfl rfl (pNe rfl rfl) fun a hf => ?_
    refine stP hf rfl rfl rfl (pM rfl) fun a hf => ?_
    refine stCut 5 (fun a w => Has 219 a [(8, .pointer (some ⟨b_5, 0, none⟩)), (9, .pointer (some ⟨b_7, 0, none⟩)), (10, .pointer (some ⟨b_8, 0, none⟩)), (11, .int .i64 r_7.2), (12, .slice p_6 r_6.1.length c_6), (14, .int .i64 r_7.1), (72, .int .i64 r_7.2), (73, .bool (r_7.2 != 0)), (74, .bool (r_7.2 != 0)), (79, .bool ((r_7.2 != 0) || (decide (r_7.1 < r_5.1.Lo))))] ∧ Ctx G (.row p_5 c_5 (r_3.1.Verticals.map enc_gauge_Vertical) 61 5 :: .row p_6 c_6 (r_6.1.map enc_api_Span) 24 2 :: .box b_8 [.int .i64 r_5.1.Lo, .int .i64 r_5.1.Hi] 24 :: .box b_7 [.slice tries_p tries.length tries_c, .int .i64 r_4.1, .int .i64 r_4.2] 104 :: .box b_5 [.int .i64 r_3.1.Left, .int .i64 r_3.1.Right, .slice p_5 r_3.1.Verticals.length c_5] 48 :: .box b_6 [.slice errors_p errors.length errors_c, .int .i64 r_3.2.1, .int .i64 r_3.2.2] 104 :: .box b_2 [.int .i64 r_1.1.Left, .int .i64 r_1.1.Right, .slice p_1 r_1.1.At.length c_1, .slice p_2 r_1.1.Depth.length c_2, .slice p_3 r_1.1.Speeds.length c_3] 51 :: .row p_1 c_1 (r_1.1.At.map encI_i64) 3 1 :: .row p_2 c_2 (r_1.1.Depth.map encI_i64) 3 1 :: .row p_3 c_3 (r_1.1.Speeds.map encI_i64) 3 1 :: .box b_1 [.slice numbers_p numbers.length numbers_c, .int .i64 r_1.2.1, .int .i64 r_1.2.2] 104 :: Lf) w) ?_ ?_
    · cases hb : (r_7.2 != 0)
      · rw [hb] at hf
        refine stP hf rfl rfl rfl (pM rfl) fun a hf => ?_
        refine stP hf rfl rfl rfl (pFA fa_24_0 rfl) fun a hf => ?_
        refine stE hf hc rfl rfl rfl (eLd1 sc_3 rfl (cell_box m2 rfl)) fun a w hf hc => ?_
        refine stP hf rfl rfl rfl (pLt rfl rfl) fun a hf => ?_
        refine stP hf rfl rfl rfl (pPf rfl rfl) fun a hf => ?_
        exact cNil ⟨hf.keep ⟨rfl, rfl, rfl, rfl, rfl, rfl, rfl, rfl, rfl, rfl, trivial⟩, hc⟩
      · rw [hb] at hf
        refine stS hf rfl rfl rfl fun a hf => ?_
        refine stS hf rfl rfl rfl fun a hf => ?_
        refine stS hf rfl rfl rfl fun a hf => ?_
        refine stS hf rfl rfl rfl fun a hf => ?_
        refine stP hf rfl rfl rfl (pPt rfl rfl) fun a hf => ?_
        exact cNil ⟨hf.keep ⟨rfl, rfl, rfl, rfl, rfl, rfl, rfl, rfl, rfl, rfl, trivial⟩, hc⟩
    intro a w ⟨hf, hc⟩
    refine stP hf rfl rfl rfl (pM rfl) fun a hf => ?_
    refine stCut 5 (fun a w => Has 219 a [(8, .pointer (some ⟨b_5, 0, none⟩)), (9, .pointer (some ⟨b_7, 0, none⟩)), (10, .pointer (some ⟨b_8, 0, none⟩)), (11, .int .i64 r_7.2), (12, .slice p_6 r_6.1.length c_6), (14, .int .i64 r_7.1), (72, .int .i64 r_7.2), (73, .bool (r_7.2 != 0)), (74, .bool (r_7.2 != 0)), (79, .bool ((r_7.2 != 0) || (decide (r_7.1 < r_5.1.Lo)))), (80, .bool ((r_7.2 != 0) || (decide (r_7.1 < r_5.1.Lo)))), (85, .bool (((r_7.2 != 0) || (decide (r_7.1 < r_5.1.Lo))) || (decide (r_5.1.Hi < r_7.1))))] ∧ Ctx G (.row p_5 c_5 (r_3.1.Verticals.map enc_gauge_Vertical) 61 5 :: .row p_6 c_6 (r_6.1.map enc_api_Span) 24 2 :: .box b_8 [.int .i64 r_5.1.Lo, .int .i64 r_5.1.Hi] 24 :: .box b_7 [.slice tries_p tries.length tries_c, .int .i64 r_4.1, .int .i64 r_4.2] 104 :: .box b_5 [.int .i64 r_3.1.Left, .int .i64 r_3.1.Right, .slice p_5 r_3.1.Verticals.length c_5] 48 :: .box b_6 [.slice errors_p errors.length errors_c, .int .i64 r_3.2.1, .int .i64 r_3.2.2] 104 :: .box b_2 [.int .i64 r_1.1.Left, .int .i64 r_1.1.Right, .slice p_1 r_1.1.At.length c_1, .slice p_2 r_1.1.Depth.length c_2, .slice p_3 r_1.1.Speeds.length c_3] 51 :: .row p_1 c_1 (r_1.1.At.map encI_i64) 3 1 :: .row p_2 c_2 (r_1.1.Depth.map encI_i64) 3 1 :: .row p_3 c_3 (r_1.1.Speeds.map encI_i64) 3 1 :: .box b_1 [.slice numbers_p numbers.length numbers_c, .int .i64 r_1.2.1, .int .i64 r_1.2.2] 104 :: Lf) w) ?_ ?_
    · cases hb : ((r_7.2 != 0) || (decide (r_7.1 < r_5.1.Lo)))
      · rw [hb] at hf
        refine stP hf rfl rfl rfl (pM rfl) fun a hf => ?_
        refine stP hf rfl rfl rfl (pFA fa_24_1 rfl) fun a hf => ?_
        refine stE hf hc rfl rfl rfl (eLd1 sc_3 rfl (cell_box m2 rfl)) fun a w hf hc => ?_
        refine stP hf rfl rfl rfl (pGt rfl rfl) fun a hf => ?_
        refine stP hf rfl rfl rfl (pPf rfl rfl) fun a hf => ?_
        exact cNil ⟨hf.keep ⟨rfl, rfl, rfl, rfl, rfl, rfl, rfl, rfl, rfl, rfl, rfl, rfl, trivial⟩, hc⟩
      · rw [hb] at hf
        refine stS hf rfl rfl rfl fun a hf => ?_
        refine stS hf rfl rfl rfl fun a hf => ?_
        refine stS hf rfl rfl rfl fun a hf => ?_
        refine stS hf rfl rfl rfl fun a hf => ?_
        refine stP hf rfl rfl rfl (pPt rfl rfl) fun a hf => ?_
        exact cNil ⟨hf.keep ⟨rfl, rfl, rfl, rfl, rfl, rfl, rfl, rfl, rfl, rfl, rfl, rfl, trivial⟩, hc⟩
    intro a w ⟨hf, hc⟩
    refine cNil ?_
    refine h12 _ _ ?_
    refine cCond (b := (((r_7.2 != 0) || (decide (r_7.1 < r_5.1.Lo))) || (decide (r_5.1.Hi < r_7.1)))) hf rfl (fun hb => ?_) (fun hb => ?_)
    · replace hF := condT hb hF
      clear hb
      refine wp_seq_k fun K13 h13 => ?_
      refine cReg ?_
      refine stP hf rfl rfl rfl (pA rfl) fun a hf => ?_
      refine cNil ?_
      refine h13 _ _ ?_
      refine wp_ret ?_
      refine xThenR ?_
      obtain rfl := Option.some.inj hF
      replace hc := hc.drop k10
      replace hc := hc.drop k9
      replace hc := hc.drop k8
      replace hc := hc.drop k7
      replace hc := hc.drop k6
      replace hc := hc.drop k5
      replace hc := hc.drop k4
      replace hc := hc.drop k3
      replace hc := hc.drop k2
      replace hc := hc.drop k1
      replace hc := hc.drop k0
      exact fnOut1 (by simp) rfl Try.results7 hf hc (show look _ 6 = _ from rfl) ⟨rfl, hc⟩
    · replace hF := condF hb hF
      clear hb
      refine wp_skip ?_
      refine h11 _ _ ?_
      refine wp_seq_k fun K14 h14 => ?_
      refine wp_seq_k fun K15 h15 => ?_
      refine cReg ?_
      refine stP hf rfl rfl rfl (pM rfl) fun a hf => ?_
      refine cNil ?_
      refine h15 _ _ ?_
      refine wp_block ?_
      obtain ⟨x16, hx16, hF⟩ := bnd_some hF
      let S16 : (Int × (List gauge_Vertical) × Int × Int) → Act → World → Prop := (fun (zz : Int × (List gauge_Vertical) × Int × Int) a w => ∃ (p_7 : Option Addr) (c_7 : Nat), Has 219 a [(8, .pointer (some ⟨b_5, 0, none⟩)), (9, .pointer (some ⟨b_7, 0, none⟩)), (10, .pointer (some ⟨b_8, 0, none⟩)), (12, .slice p_6 r_6.1.length c_6), (86, .int .i64 zz.1)] ∧ Ctx G (.row p_7 c_7 (zz.2.1.map enc_gauge_Vertical) 61 5 :: .row p_6 c_6 (r_6.1.map enc_api_Span) 24 2 :: .box b_8 [.int .i64 r_5.1.Lo, .int .i64 r_5.1.Hi] 24 :: .box b_7 [.slice tries_p tries.length tries_c, .int .i64 zz.2.2.1, .int .i64 zz.2.2.2] 104 :: .box b_5 [.int .i64 r_3.1.Left, .int .i64 r_3.1.Right, .slice p_7 zz.2.1.length c_7] 48 :: Lf) w)
      have hr16 : ∀ (zz : Int × (List gauge_Vertical) × Int × Int) a w, x16 = .go zz → S16 zz a w → K14 a w := by
        rintro ⟨x, x_1, x_2, x_3⟩ a w rfl ⟨p_7, c_7, hf, hc⟩
        replace hF : _ = some res := hF
        refine h14 _ _ ?_
        refine wp_seq_k fun K17 h17 => ?_
        refine wp_seq_k fun K18 h18 => ?_
        refine cReg ?_
        refine stBS (rows := ([false, true] : List Bool).map encB) (vs := [(0, .bool false), (1, .bool true)]) hf hc rfl rfl sl_78 rfl ⟨rfl, rfl, rfl, rfl, rfl, rfl, trivial⟩ rfl rfl fun b_9 a w hf hc => ?_
        refine stP hf rfl rfl rfl (pLenS Try.underlying78 rfl) fun a hf => ?_
        refine stP hf rfl rfl rfl (pM rfl) fun a hf => ?_
        refine cNil ?_
        refine h18 _ _ ?_
        refine wp_block ?_
        obtain ⟨x19, hx19, hF⟩ := bnd_some hF
        let S19 : ((List api_Span) × Int × (List gauge_Vertical)) → Act → World → Prop := (fun (zz : (List api_Span) × Int × (List gauge_Vertical)) a w => ∃ (p_8 : Option Addr) (c_8 : Nat) (p_9 : Option Addr) (c_9 : Nat), Has 219 a [(8, .pointer (some ⟨b_5, 0, none⟩)), (10, .pointer (some ⟨b_8, 0, none⟩)), (12, .slice p_8 zz.1.length c_8), (140, .slice (some ⟨b_9, 0, none⟩) 2 2), (141, .int .i64 (2 : Int)), (142, .int .i64 zz.2.1)] ∧ Ctx G (.row (some ⟨b_9, 0, none⟩) 2 (([false, true] : List Bool).map encB) 4 1 :: .row p_9 c_9 (zz.2.2.map enc_gauge_Vertical) 61 5 :: .row p_8 c_8 (zz.1.map enc_api_Span) 24 2 :: .box b_8 [.int .i64 r_5.1.Lo, .int .i64 r_5.1.Hi] 24 :: .box b_5 [.int .i64 r_3.1.Left, .int .i64 r_3.1.Right, .slice p_9 zz.2.2.length c_9] 48 :: Lf) w)
        have hr19 : ∀ (zz : (List api_Span) × Int × (List gauge_Vertical)) a w, x19 = .go zz → S19 zz a w → K17 a w := by
          rintro ⟨l, x_4, x_5⟩ a w rfl ⟨p_8, c_8, p_9, c_9, hf, hc⟩
          replace hF : _ = some res := hF
          refine h17 _ _ ?_
          refine wp_seq_k fun K20 h20 => ?_
          refine cReg ?_
          obtain ⟨r_8, hr_8, hF⟩ := bnd_some hF
          refine stE hf hc rfl rfl rfl (eC (v := .bool r_8) (vs := []) (caps := []) en_15 rfl rfl rfl rfl (fun w hc => law03_awake_ok hc hr_8)) fun a w hf hc => ?_
          refine stP hf rfl rfl rfl (pA rfl) fun a hf => ?_
          refine cNil ?_
          refine h20 _ _ ?_
          refine wp_ret ?_
          obtain rfl := Option.some.inj hF
          replace hc := hc.drop k4
          replace hc := hc.drop k3
          replace hc := hc.drop k2
          replace hc := hc.drop k1
          replace hc := hc.drop k0
          exact fnOut1 (by simp) rfl Try.results7 hf hc (show look _ 6 = _ from rfl) ⟨rfl, hc⟩
        have ho19 : ∀ r, x19 = .out r → r = res := by
          rintro r rfl
          exact Option.some.inj hF
        replace hc := hc.drop k4
        refine cLoop N (loopW (S := S19) (x := x19) ?_ N (r_6.1, 0, x_1) _ _ ⟨p_6, c_6, p_7, c_7, hf.keep ⟨rfl, rfl, rfl, rfl, rfl, rfl, trivial⟩, hc⟩ hx19)
        clear hF hf hc
        rintro ⟨l, x_4, x_5⟩ st19 a w KB19 ⟨p_8, c_8, p_9, c_9, hf, hc⟩ hF hfin19 hK19
        unfold law03_GaugeTrue_b19 at hF
        refine wp_seq_k fun K21 h21 => ?_
        refine cReg ?_
        refine stP hf rfl rfl rfl (pLt rfl rfl) fun a hf => ?_
        refine cNil ?_
        refine h21 _ _ ?_
        refine wp_seq_k fun K22 h22 => ?_
        refine cCond (b := (decide (x_4 < (2 : Int)))) hf rfl (fun hb => ?_) (fun hb => ?_)
        · replace hF := condT hb hF
          clear hb
          refine wp_skip ?_
          refine h22 _ _ ?_
          refine wp_seq_k fun K23 h23 => ?_
          refine wp_block ?_
          refine wp_seq_k fun K24 h24 => ?_
          refine cReg ?_
          obtain ⟨e_1, he_1, hF⟩ := bnd_some hF
          obtain ⟨ha, hr⟩ := row_atk hc m0 he_1
          refine stP hf rfl rfl rfl (pIA Try.underlying78 sz_4 rfl rfl ha) fun a hf => ?_
          refine stE hf hc rfl rfl rfl (eLd1 sc_4 rfl (cell_row (j := 0) m0 hr rfl)) fun a w hf hc => ?_
          refine stP hf rfl rfl rfl (pA rfl) fun a hf => ?_
          refine cNil ?_
          refine h24 _ _ ?_
          refine wp_seq_k fun K25 h25 => ?_
          refine cReg ?_
          refine stP hf rfl rfl rfl (pA rfl) fun a hf => ?_
          refine stP hf rfl rfl rfl (pA rfl) fun a hf => ?_
          refine cNil ?_
          refine h25 _ _ ?_
          refine wp_seq_k fun K26 h26 => ?_
          refine cReg ?_
          refine stP hf rfl rfl rfl (pA rfl) fun a hf => ?_
          refine cNil ?_
          refine h26 _ _ ?_
          refine wp_seq_k fun K27 h27 => ?_
          refine wp_seq_k fun K28 h28 => ?_
          refine cReg ?_
          refine stP hf rfl rfl rfl (pFA fa_48_2 rfl) fun a hf => ?_
          refine stE hf hc rfl rfl rfl (eLd1 sc_46 rfl (cell_box m4 rfl)) fun a w hf hc => ?_
          refine stP hf rfl rfl rfl (pLenS Try.underlying46 rfl) fun a hf => ?_
          refine stP hf rfl rfl rfl (pM rfl) fun a hf => ?_
          refine cNil ?_
          refine h28 _ _ ?_
          refine wp_block ?_
          obtain ⟨x29, hx29, hF⟩ := bnd_some hF
          let S29 : ((List api_Span) × (List Int) × (List Int) × Int × (List gauge_Vertical) × Int) → Act → World → Prop := (fun (zz : (List api_Span) × (List Int) × (List Int) × Int × (List gauge_Vertical) × Int) a w => ∃ (p_10 : Option Addr) (c_10 : Nat) (p_11 : Option Addr) (c_11 : Nat) (p_12 : Option Addr) (c_12 : Nat) (p_13 : Option Addr) (c_13 : Nat), Has 219 a [(8, .pointer (some ⟨b_5, 0, none⟩)), (10, .pointer (some ⟨b_8, 0, none⟩)), (12, .slice p_10 zz.1.length c_10), (20, .bool e_1), (21, .slice p_11 zz.2.1.length c_11), (22, .slice p_12 zz.2.2.1.length c_12), (23, .int .i64 zz.2.2.2.1), (140, .slice (some ⟨b_9, 0, none⟩) 2 2), (141, .int .i64 (2 : Int)), (142, .int .i64 x_4), (147, .slice p_13 zz.2.2.2.2.1.length c_13), (148, .int .i64 ((x_5.length : Nat) : Int)), (149, .int .i64 zz.2.2.2.2.2)] ∧ Ctx G (.row p_12 c_12 (zz.2.2.1.map encI_i64) 3 1 :: .row p_11 c_11 (zz.2.1.map encI_i64) 3 1 :: .row (some ⟨b_9, 0, none⟩) 2 (([false, true] : List Bool).map encB) 4 1 :: .row p_13 c_13 (zz.2.2.2.2.1.map enc_gauge_Vertical) 61 5 :: .row p_10 c_10 (zz.1.map enc_api_Span) 24 2 :: .box b_8 [.int .i64 r_5.1.Lo, .int .i64 r_5.1.Hi] 24 :: .box b_5 [.int .i64 r_3.1.Left, .int .i64 r_3.1.Right, .slice p_13 zz.2.2.2.2.1.length c_13] 48 :: Lf) w)
          have hr29 : ∀ (zz : (List api_Span) × (List Int) × (List Int) × Int × (List gauge_Vertical) × Int) a w, x29 = .go zz → S29 zz a w → K27 a w := by
            rintro ⟨l_1, depths, speeds, sum, x_6, x_7⟩ a w rfl ⟨p_10, c_10, p_11, c_11, p_12, c_12, p_13, c_13, hf, hc⟩
            replace hF : _ = some st19 := hF
            refine h27 _ _ ?_
            refine wp_seq_k fun K30 h30 => ?_
            refine cReg ?_
            refine stE hf hc rfl rfl rfl (eLdN (vs := [.int .i64 r_3.1.Left, .int .i64 r_3.1.Right, .slice p_13 x_6.length c_13]) ag_48 rfl rfl (cells_box (n := 3) m6 rfl)) fun a w hf hc => ?_
            refine stP hf rfl rfl rfl (pM rfl) fun a hf => ?_
            refine stP hf rfl rfl rfl (pM rfl) fun a hf => ?_
            obtain ⟨r_9, hr_9, hF⟩ := bnd_some hF
            refine stE hf hc rfl rfl rfl (eC (v := .tuple #[.int .i64 r_9.1, .int .i64 r_9.2]) (vs := [.agg #[.int .i64 r_3.1.Left, .int .i64 r_3.1.Right, .slice p_13 x_6.length c_13], .slice p_11 depths.length c_11, .slice p_12 speeds.length c_12]) (caps := []) en_33 rfl rfl rfl rfl (fun w hc => by obtain ⟨G1, hle1, hrd1, hc, hth1⟩ := lend hc k3; obtain ⟨G2, hle2, hrd2, hc, hth2⟩ := lend hc k1; obtain ⟨G3, hle3, hrd3, hc, hth3⟩ := lend hc k0; exact (gauge_Real_ok (⟨r_3.1.Left, r_3.1.Right, x_6⟩ : gauge_Gauging) depths speeds ((hrd1.mono hle2).mono hle3) (hrd2.mono hle3) hrd3 hc hr_9).mono fun e w h => ⟨h.1, ((hth1 _ _ ((hth2 _ _ ((hth3 _ _ h.2).unpick k0)).unpick k1)).unpick k3)⟩)) fun a w hf hc => ?_
            refine stP hf rfl rfl rfl (pM rfl) fun a hf => ?_
            refine stP hf rfl rfl rfl (pX rfl rfl) fun a hf => ?_
            refine stP hf rfl rfl rfl (pX rfl rfl) fun a hf => ?_
            refine stP hf rfl rfl rfl (pA rfl) fun a hf => ?_
            refine stP hf rfl rfl rfl (pA rfl) fun a hf => ?_
            refine cNil ?_
            refine h30 _ _ ?_
            refine wp_seq_k fun K31 h31 => ?_
            refine cReg ?_
            refine stP hf rfl rfl rfl (pFA fa_24_0 rfl) fun a hf => ?_
            refine stE hf hc rfl rfl rfl (eLd1 sc_3 rfl (cell_box m5 rfl)) fun a w hf hc => ?_
            refine stP hf rfl rfl rfl (pA rfl) fun a hf => ?_
            refine cNil ?_
            refine h31 _ _ ?_
            refine wp_seq_k fun K32 h32 => ?_
            have hj32 : ∀ (end_ : Int) a w, Has 219 a [(8, .pointer (some ⟨b_5, 0, none⟩)), (10, .pointer (some ⟨b_8, 0, none⟩)), (11, .int .i64 r_9.2), (12, .slice p_10 l_1.length c_10), (14, .int .i64 r_9.1), (23, .int .i64 sum), (29, .int .i64 end_), (140, .slice (some ⟨b_9, 0, none⟩) 2 2), (141, .int .i64 (2 : Int)), (142, .int .i64 x_4)] → Ctx G (.row (some ⟨b_9, 0, none⟩) 2 (([false, true] : List Bool).map encB) 4 1 :: .row p_13 c_13 (x_6.map enc_gauge_Vertical) 61 5 :: .row p_10 c_10 (l_1.map enc_api_Span) 24 2 :: .box b_8 [.int .i64 r_5.1.Lo, .int .i64 r_5.1.Hi] 24 :: .box b_5 [.int .i64 r_3.1.Left, .int .i64 r_3.1.Right, .slice p_13 x_6.length c_13] 48 :: Lf) w → law03_GaugeTrue_j32 N x_4 l_1 sum x_6 r_9 end_ = some st19 → K32 a w := by
              intro end_ a w hf hc hF
              unfold law03_GaugeTrue_j32 at hF
              refine h32 _ _ ?_
              refine wp_seq_k fun K33 h33 => ?_
              refine cReg ?_
              refine stP hf rfl rfl rfl (pM rfl) fun a hf => ?_
              refine stP hf rfl rfl rfl (pNe rfl rfl) fun a hf => ?_
              refine stP hf rfl rfl rfl (pM rfl) fun a hf => ?_
              refine stCut 4 (fun a w => Has 219 a [(8, .pointer (some ⟨b_5, 0, none⟩)), (10, .pointer (some ⟨b_8, 0, none⟩)), (11, .int .i64 r_9.2), (12, .slice p_10 l_1.length c_10), (14, .int .i64 r_9.1), (23, .int .i64 sum), (29, .int .i64 end_), (140, .slice (some ⟨b_9, 0, none⟩) 2 2), (141, .int .i64 (2 : Int)), (142, .int .i64 x_4), (205, .int .i64 r_9.2), (206, .bool (r_9.2 != 0)), (207, .bool (r_9.2 != 0)), (211, .bool ((r_9.2 != 0) || (r_9.1 != end_)))] ∧ Ctx G (.row (some ⟨b_9, 0, none⟩) 2 (([false, true] : List Bool).map encB) 4 1 :: .row p_13 c_13 (x_6.map enc_gauge_Vertical) 61 5 :: .row p_10 c_10 (l_1.map enc_api_Span) 24 2 :: .box b_8 [.int .i64 r_5.1.Lo, .int .i64 r_5.1.Hi] 24 :: .box b_5 [.int .i64 r_3.1.Left, .int .i64 r_3.1.Right, .slice p_13 x_6.length c_13] 48 :: Lf) w) ?_ ?_
              · cases hb : (r_9.2 != 0)
                · rw [hb] at hf
                  refine stP hf rfl rfl rfl (pM rfl) fun a hf => ?_
                  refine stP hf rfl rfl rfl (pM rfl) fun a hf => ?_
                  refine stP hf rfl rfl rfl (pNe rfl rfl) fun a hf => ?_
                  refine stP hf rfl rfl rfl (pPf rfl rfl) fun a hf => ?_
                  exact cNil ⟨hf.keep ⟨rfl, rfl, rfl, rfl, rfl, rfl, rfl, rfl, rfl, rfl, rfl, rfl, rfl, rfl, trivial⟩, hc⟩
                · rw [hb] at hf
                  refine stS hf rfl rfl rfl fun a hf => ?_
                  refine stS hf rfl rfl rfl fun a hf => ?_
                  refine stS hf rfl rfl rfl fun a hf => ?_
                  refine stP hf rfl rfl rfl (pPt rfl rfl) fun a hf => ?_
                  exact cNil ⟨hf.keep ⟨rfl, rfl, rfl, rfl, rfl, rfl, rfl, rfl, rfl, rfl, rfl, rfl, rfl, rfl, trivial⟩, hc⟩
              intro a w ⟨hf, hc⟩
              refine stP hf rfl rfl rfl (pM rfl) fun a hf => ?_
              refine stCut 4 (fun a w => Has 219 a [(8, .pointer (some ⟨b_5, 0, none⟩)), (10, .pointer (some ⟨b_8, 0, none⟩)), (11, .int .i64 r_9.2), (12, .slice p_10 l_1.length c_10), (14, .int .i64 r_9.1), (23, .int .i64 sum), (29, .int .i64 end_), (140, .slice (some ⟨b_9, 0, none⟩) 2 2), (141, .int .i64 (2 : Int)), (142, .int .i64 x_4), (205, .int .i64 r_9.2), (206, .bool (r_9.2 != 0)), (207, .bool (r_9.2 != 0)), (211, .bool ((r_9.2 != 0) || (r_9.1 != end_))), (212, .bool ((r_9.2 != 0) || (r_9.1 != end_))), (216, .bool (((r_9.2 != 0) || (r_9.1 != end_)) || (sum != end_)))] ∧ Ctx G (.row (some ⟨b_9, 0, none⟩) 2 (([false, true] : List Bool).map encB) 4 1 :: .row p_13 c_13 (x_6.map enc_gauge_Vertical) 61 5 :: .row p_10 c_10 (l_1.map enc_api_Span) 24 2 :: .box b_8 [.int .i64 r_5.1.Lo, .int .i64 r_5.1.Hi] 24 :: .box b_5 [.int .i64 r_3.1.Left, .int .i64 r_3.1.Right, .slice p_13 x_6.length c_13] 48 :: Lf) w) ?_ ?_
              · cases hb : ((r_9.2 != 0) || (r_9.1 != end_))
                · rw [hb] at hf
                  refine stP hf rfl rfl rfl (pM rfl) fun a hf => ?_
                  refine stP hf rfl rfl rfl (pM rfl) fun a hf => ?_
                  refine stP hf rfl rfl rfl (pNe rfl rfl) fun a hf => ?_
                  refine stP hf rfl rfl rfl (pPf rfl rfl) fun a hf => ?_
                  exact cNil ⟨hf.keep ⟨rfl, rfl, rfl, rfl, rfl, rfl, rfl, rfl, rfl, rfl, rfl, rfl, rfl, rfl, rfl, rfl, trivial⟩, hc⟩
                · rw [hb] at hf
                  refine stS hf rfl rfl rfl fun a hf => ?_
                  refine stS hf rfl rfl rfl fun a hf => ?_
                  refine stS hf rfl rfl rfl fun a hf => ?_
                  refine stP hf rfl rfl rfl (pPt rfl rfl) fun a hf => ?_
                  exact cNil ⟨hf.keep ⟨rfl, rfl, rfl, rfl, rfl, rfl, rfl, rfl, rfl, rfl, rfl, rfl, rfl, rfl, rfl, rfl, trivial⟩, hc⟩
              intro a w ⟨hf, hc⟩
              refine cNil ?_
              refine h33 _ _ ?_
              refine cCond (b := (((r_9.2 != 0) || (r_9.1 != end_)) || (sum != end_))) hf rfl (fun hb => ?_) (fun hb => ?_)
              · replace hF := condT hb hF
                clear hb
                refine wp_seq_k fun K34 h34 => ?_
                refine cReg ?_
                refine stP hf rfl rfl rfl (pA rfl) fun a hf => ?_
                refine cNil ?_
                refine h34 _ _ ?_
                refine wp_ret ?_
                refine xBlkR ?_
                refine xThenR ?_
                refine xThenR ?_
                have he := Option.some.inj hF
                rw [← he] at hfin19
                replace hF := ho19 _ hfin19
                refine xBlkR ?_
                refine xThenR ?_
                obtain rfl := hF
                replace hc := hc.drop k4
                replace hc := hc.drop k3
                replace hc := hc.drop k2
                replace hc := hc.drop k1
                replace hc := hc.drop k0
                exact fnOut1 (by simp) rfl Try.results7 hf hc (show look _ 6 = _ from rfl) ⟨rfl, hc⟩
              · replace hF := condF hb hF
                clear hb
                refine wp_skip ?_
                refine h23 _ _ ?_
                refine cReg ?_
                refine stP hf rfl rfl rfl (pAdd rfl rfl) fun a hf => ?_
                refine stP hf rfl rfl rfl (pM rfl) fun a hf => ?_
                refine cNil ?_
                exact hK19 (l_1, W (x_4 + 1), x_6) _ _ (Option.some.inj hF).symm ⟨p_10, c_10, p_13, c_13, hf.keep ⟨rfl, rfl, rfl, rfl, rfl, rfl, trivial⟩, hc⟩
            refine wp_seq_k fun K35 h35 => ?_
            refine cReg ?_
            refine stP hf rfl rfl rfl (pM rfl) fun a hf => ?_
            refine cNil ?_
            refine h35 _ _ ?_
            refine cCond (b := e_1) hf rfl (fun hb => ?_) (fun hb => ?_)
            · replace hF := condT hb hF
              clear hb
              refine cReg ?_
              refine stP hf rfl rfl rfl (pFA fa_24_1 rfl) fun a hf => ?_
              refine stE hf hc rfl rfl rfl (eLd1 sc_3 rfl (cell_box m5 rfl)) fun a w hf hc => ?_
              refine stP hf rfl rfl rfl (pA rfl) fun a hf => ?_
              refine cNil ?_
              replace hc := hc.drop k1
              replace hc := hc.drop k0
              exact hj32 r_5.1.Hi _ _  (hf.keep ⟨rfl, rfl, rfl, rfl, rfl, rfl, rfl, rfl, rfl, rfl, trivial⟩) hc hF
            · replace hF := condF hb hF
              clear hb
              refine wp_skip ?_
              replace hc := hc.drop k1
              replace hc := hc.drop k0
              exact hj32 r_5.1.Lo _ _  (hf.keep ⟨rfl, rfl, rfl, rfl, rfl, rfl, rfl, rfl, rfl, rfl, trivial⟩) hc hF
          have ho29 : ∀ r, x29 = .out r → r = st19 := by
            rintro r rfl
            exact Option.some.inj hF
          replace hc := hc.nilRow 3 1
          replace hc := hc.nilRow 3 1
          refine cLoop N (loopW (S := S29) (x := x29) ?_ N (l, ([] : List Int), ([] : List Int), 0, x_5, 0) _ _ ⟨p_8, c_8, none, 0, none, 0, p_9, c_9, hf.keep ⟨rfl, rfl, rfl, rfl, rfl, rfl, rfl, rfl, rfl, rfl, rfl, rfl, rfl, trivial⟩, hc⟩ hx29)
          clear hF hf hc
          rintro ⟨l_1, depths, speeds, sum, x_6, x_7⟩ st29 a w KB29 ⟨p_10, c_10, p_11, c_11, p_12, c_12, p_13, c_13, hf, hc⟩ hF hfin29 hK29
          unfold law03_GaugeTrue_b29 at hF
          refine wp_seq_k fun K36 h36 => ?_
          refine cReg ?_
          refine stP hf rfl rfl rfl (pLt rfl rfl) fun a hf => ?_
          refine cNil ?_
          refine h36 _ _ ?_
          refine wp_seq_k fun K37 h37 => ?_
          refine cCond (b := (decide (x_7 < ((x_5.length : Nat) : Int)))) hf rfl (fun hb => ?_) (fun hb => ?_)
          · replace hF := condT hb hF
            clear hb
            refine wp_skip ?_
            refine h37 _ _ ?_
            refine wp_seq_k fun K38 h38 => ?_
            refine wp_block ?_
            refine wp_seq_k fun K39 h39 => ?_
            refine cReg ?_
            refine stP hf rfl rfl rfl (pM rfl) fun a hf => ?_
            obtain ⟨e_2, he_2, hF⟩ := bnd_some hF
            obtain ⟨g, rfl, ha_1, hr_1⟩ := row_atm hc m3 he_2
            refine stP hf rfl rfl rfl (pIA Try.underlying46 sz_61 rfl rfl ha_1) fun a hf => ?_
            refine stE hf hc rfl rfl rfl (eLdN (vs := [.int .i64 e_2.At, .int .i64 e_2.Depth.Lo, .int .i64 e_2.Depth.Hi, .int .i64 e_2.Speed.Lo, .int .i64 e_2.Speed.Hi]) ag_61 rfl rfl (cells_rw m3 hr_1 (n := 5) (o' := 0) rfl)) fun a w hf hc => ?_
            refine stAl (cs := [.int .i64 0, .int .i64 0, .int .i64 0, .int .i64 0, .int .i64 0]) hf hc rfl rfl zr_61 rfl fun b_10 a w hf hc => ?_
            refine stP hf rfl rfl rfl (pA rfl) fun a hf => ?_
            refine stSt (vs := [.int .i64 e_2.At, .int .i64 e_2.Depth.Lo, .int .i64 e_2.Depth.Hi, .int .i64 e_2.Speed.Lo, .int .i64 e_2.Speed.Hi]) hf hc rfl rfl rfl rfl sz_61 rfl rfl u0 fun w hc => ?_
            refine cNil ?_
            refine h39 _ _ ?_
            refine wp_seq_k fun K40 h40 => ?_
            obtain ⟨e_3, he_3, hF⟩ := bnd_some hF
            obtain ⟨g_1, rfl, ha_2, hr_2⟩ := row_atm hc m5 he_3
            refine cQ hc follows_mx (by kernel_rfl) ?_
            refine qE hf rfl rfl rfl (Pu.ev (pFA fa_61_2 rfl)) fun a hf => ?_
            refine qE hf rfl rfl rfl (Pu.ev (pFA fa_24_0 rfl)) fun a hf => ?_
            refine qE hf rfl rfl rfl (eLd1 sc_3 rfl (cell_box m0 rfl)) fun a hf => ?_
            refine qE hf rfl rfl rfl (Pu.ev (pM rfl)) fun a hf => ?_
            refine qE hf rfl rfl rfl (Pu.ev (pM rfl)) fun a hf => ?_
            refine qE hf rfl rfl rfl (Pu.ev (pIA Try.underlying72 sz_24 rfl rfl ha_2)) fun a hf => ?_
            refine qE hf rfl rfl rfl (Pu.ev (pFA fa_24_0 rfl)) fun a hf => ?_
            refine qE hf rfl rfl rfl (eLd1 sc_3 rfl (cell_row (j := 0) m5 hr_2 rfl)) fun a hf => ?_
            refine qE hf rfl rfl rfl (Pu.ev (pA rfl)) fun a hf => ?_
            refine qE hf rfl rfl rfl (Pu.ev (pA rfl)) fun a hf => ?_
            intro w hc
            refine h40 _ _ ?_
            refine wp_seq_k fun K41 h41 => ?_
            have hj41 : ∀ (speed : Int) (want : Int) a w, Has 219 a [(8, .pointer (some ⟨b_5, 0, none⟩)), (10, .pointer (some ⟨b_8, 0, none⟩)), (12, .slice (some ⟨g_1, 0, none⟩) l_1.length c_10), (20, .bool e_1), (21, .slice p_11 depths.length c_11), (22, .slice p_12 speeds.length c_12), (23, .int .i64 sum), (25, .pointer (some ⟨b_10, 0, none⟩)), (26, .int .i64 speed), (27, .int .i64 want), (140, .slice (some ⟨b_9, 0, none⟩) 2 2), (141, .int .i64 (2 : Int)), (142, .int .i64 x_4), (147, .slice (some ⟨g, 0, none⟩) x_6.length c_13), (148, .int .i64 ((x_5.length : Nat) : Int)), (149, .int .i64 x_7)] → Ctx G (.box b_10 [.int .i64 e_2.At, .int .i64 e_2.Depth.Lo, .int .i64 e_2.Depth.Hi, .int .i64 e_2.Speed.Lo, .int .i64 e_2.Speed.Hi] 61 :: .row p_12 c_12 (speeds.map encI_i64) 3 1 :: .row p_11 c_11 (depths.map encI_i64) 3 1 :: .row (some ⟨b_9, 0, none⟩) 2 (([false, true] : List Bool).map encB) 4 1 :: .row (some ⟨g, 0, none⟩) c_13 (x_6.map enc_gauge_Vertical) 61 5 :: .row (some ⟨g_1, 0, none⟩) c_10 (l_1.map enc_api_Span) 24 2 :: .box b_8 [.int .i64 r_5.1.Lo, .int .i64 r_5.1.Hi] 24 :: .box b_5 [.int .i64 r_3.1.Left, .int .i64 r_3.1.Right, .slice (some ⟨g, 0, none⟩) x_6.length c_13] 48 :: Lf) w → law03_GaugeTrue_j41 N e_1 l_1 depths speeds sum x_6 x_7 e_2 speed want = some st29 → K41 a w := by
              intro speed want a w hf hc hF
              unfold law03_GaugeTrue_j41 at hF
              refine h41 _ _ ?_
              refine wp_seq_k fun K42 h42 => ?_
              refine cReg ?_
              refine stP hf rfl rfl rfl (pFA fa_61_1 rfl) fun a hf => ?_
              refine stP hf rfl rfl rfl (pFA fa_24_0 rfl) fun a hf => ?_
              refine stE hf hc rfl rfl rfl (eLd1 sc_3 rfl (cell_box m0 rfl)) fun a w hf hc => ?_
              refine stP hf rfl rfl rfl (pA rfl) fun a hf => ?_
              refine cNil ?_
              refine h42 _ _ ?_
              refine wp_seq_k fun K43 h43 => ?_
              have hj43 : ∀ (depth : Int) a w, Has 219 a [(8, .pointer (some ⟨b_5, 0, none⟩)), (10, .pointer (some ⟨b_8, 0, none⟩)), (12, .slice (some ⟨g_1, 0, none⟩) l_1.length c_10), (20, .bool e_1), (21, .slice p_11 depths.length c_11), (22, .slice p_12 speeds.length c_12), (23, .int .i64 sum), (26, .int .i64 speed), (27, .int .i64 want), (28, .int .i64 depth), (140, .slice (some ⟨b_9, 0, none⟩) 2 2), (141, .int .i64 (2 : Int)), (142, .int .i64 x_4), (147, .slice (some ⟨g, 0, none⟩) x_6.length c_13), (148, .int .i64 ((x_5.length : Nat) : Int)), (149, .int .i64 x_7)] → Ctx G (.row p_12 c_12 (speeds.map encI_i64) 3 1 :: .row p_11 c_11 (depths.map encI_i64) 3 1 :: .row (some ⟨b_9, 0, none⟩) 2 (([false, true] : List Bool).map encB) 4 1 :: .row (some ⟨g, 0, none⟩) c_13 (x_6.map enc_gauge_Vertical) 61 5 :: .row (some ⟨g_1, 0, none⟩) c_10 (l_1.map enc_api_Span) 24 2 :: .box b_8 [.int .i64 r_5.1.Lo, .int .i64 r_5.1.Hi] 24 :: .box b_5 [.int .i64 r_3.1.Left, .int .i64 r_3.1.Right, .slice (some ⟨g, 0, none⟩) x_6.length c_13] 48 :: Lf) w → law03_GaugeTrue_j43 N l_1 depths speeds sum x_6 x_7 speed want depth = some st29 → K43 a w := by
                intro depth a w hf hc hF
                unfold law03_GaugeTrue_j43 at hF
                refine h43 _ _ ?_
                refine wp_seq_k fun K44 h44 => ?_
                refine cReg ?_
                refine stP hf rfl rfl rfl (pM rfl) fun a hf => ?_
                refine stP hf rfl rfl rfl (pM rfl) fun a hf => ?_
                refine stBS (rows := ([depth] : List Int).map encI_i64) (vs := [(0, .int .i64 depth)]) hf hc rfl rfl sl_43 rfl ⟨rfl, rfl, rfl, trivial⟩ rfl rfl fun b_11 a w hf hc => ?_
                obtain ⟨un, hun, hF⟩ := bnd_some hF
                refine stApm (xs := depths) (ys := ([depth] : List Int)) hf hc rfl rfl sl_43 rfl rfl rfl rfl rfl one_encI_i64 (src_row hc m0) (fun _ _ => u2) (by simpa using room_spec hun) fun p_14 c_14 a w hf hc => ?_
                refine stP hf rfl rfl rfl (pM rfl) fun a hf => ?_
                refine stP hf rfl rfl rfl (pM rfl) fun a hf => ?_
                refine stBS (rows := ([speed] : List Int).map encI_i64) (vs := [(0, .int .i64 speed)]) hf hc rfl rfl sl_43 rfl ⟨rfl, rfl, rfl, trivial⟩ rfl rfl fun b_12 a w hf hc => ?_
                obtain ⟨un_1, hun_1, hF⟩ := bnd_some hF
                refine stApm (xs := speeds) (ys := ([speed] : List Int)) hf hc rfl rfl sl_43 rfl rfl rfl rfl rfl one_encI_i64 (src_row hc m0) (fun _ _ => u2) (by simpa using room_spec hun_1) fun p_15 c_15 a w hf hc => ?_
                refine stP hf rfl rfl rfl (pA rfl) fun a hf => ?_
                refine stP hf rfl rfl rfl (pA rfl) fun a hf => ?_
                refine cNil ?_
                refine h44 _ _ ?_
                refine cReg ?_
                refine stP hf rfl rfl rfl (pM rfl) fun a hf => ?_
                refine stP hf rfl rfl rfl (pM rfl) fun a hf => ?_
                refine stP hf rfl rfl rfl (pAdd rfl rfl) fun a hf => ?_
                refine stP hf rfl rfl rfl (pA rfl) fun a hf => ?_
                refine cNil ?_
                refine h38 _ _ ?_
                refine cReg ?_
                refine stP hf rfl rfl rfl (pAdd rfl rfl) fun a hf => ?_
                refine stP hf rfl rfl rfl (pM rfl) fun a hf => ?_
                refine cNil ?_
                replace hc := hc.drop k1
                replace hc := hc.drop k0
                exact hK29 (l_1, (depths ++ [depth]), (speeds ++ [speed]), W (sum + want), x_6, W (x_7 + 1)) _ _ (Option.some.inj hF).symm ⟨(some ⟨g_1, 0, none⟩), c_10, p_14, c_14, p_15, c_15, (some ⟨g, 0, none⟩), c_13, hf.keep ⟨rfl, rfl, rfl, rfl, rfl, rfl, rfl, rfl, rfl, rfl, rfl, rfl, rfl, trivial⟩, hc⟩
              refine wp_seq_k fun K45 h45 => ?_
              refine cReg ?_
              refine stP hf rfl rfl rfl (pM rfl) fun a hf => ?_
              refine stP hf rfl rfl rfl (pGt rfl rfl) fun a hf => ?_
              refine stP hf rfl rfl rfl (pM rfl) fun a hf => ?_
              refine stP hf rfl rfl rfl (pEqB Try.underlying4 rfl rfl) fun a hf => ?_
              refine cNil ?_
              refine h45 _ _ ?_
              refine cCond (b := ((decide (0 < speed)) == e_1)) hf rfl (fun hb => ?_) (fun hb => ?_)
              · replace hF := condT hb hF
                clear hb
                refine cReg ?_
                refine stP hf rfl rfl rfl (pFA fa_61_1 rfl) fun a hf => ?_
                refine stP hf rfl rfl rfl (pFA fa_24_1 rfl) fun a hf => ?_
                refine stE hf hc rfl rfl rfl (eLd1 sc_3 rfl (cell_box m0 rfl)) fun a w hf hc => ?_
                refine stP hf rfl rfl rfl (pA rfl) fun a hf => ?_
                refine cNil ?_
                replace hc := hc.drop k0
                exact hj43 e_2.Depth.Hi _ _  (hf.keep ⟨rfl, rfl, rfl, rfl, rfl, rfl, rfl, rfl, rfl, rfl, rfl, rfl, rfl, rfl, rfl, rfl, trivial⟩) hc hF
              · replace hF := condF hb hF
                clear hb
                refine wp_skip ?_
                replace hc := hc.drop k0
                exact hj43 e_2.Depth.Lo _ _  (hf.keep ⟨rfl, rfl, rfl, rfl, rfl, rfl, rfl, rfl, rfl, rfl, rfl, rfl, rfl, rfl, rfl, rfl, trivial⟩) hc hF
            refine wp_seq_k fun K46 h46 => ?_
            refine cReg ?_
            refine stP hf rfl rfl rfl (pM rfl) fun a hf => ?_
            refine cNil ?_
            refine h46 _ _ ?_
            refine cCond (b := e_1) hf rfl (fun hb => ?_) (fun hb => ?_)
            · replace hF := condT hb hF
              clear hb
              obtain ⟨e_4, he_4, hF⟩ := bnd_some hF
              obtain ⟨ha_3, hr_3⟩ := row_atk hc m5 he_4
              refine cQ hc follows_mx (by kernel_rfl) ?_
              refine qE hf rfl rfl rfl (Pu.ev (pFA fa_61_2 rfl)) fun a hf => ?_
              refine qE hf rfl rfl rfl (Pu.ev (pFA fa_24_1 rfl)) fun a hf => ?_
              refine qE hf rfl rfl rfl (eLd1 sc_3 rfl (cell_box m0 rfl)) fun a hf => ?_
              refine qE hf rfl rfl rfl (Pu.ev (pM rfl)) fun a hf => ?_
              refine qE hf rfl rfl rfl (Pu.ev (pM rfl)) fun a hf => ?_
              refine qE hf rfl rfl rfl (Pu.ev (pIA Try.underlying72 sz_24 rfl rfl ha_3)) fun a hf => ?_
              refine qE hf rfl rfl rfl (Pu.ev (pFA fa_24_1 rfl)) fun a hf => ?_
              refine qE hf rfl rfl rfl (eLd1 sc_3 rfl (cell_row (j := 1) m5 hr_3 rfl)) fun a hf => ?_
              refine qE hf rfl rfl rfl (Pu.ev (pA rfl)) fun a hf => ?_
              refine qE hf rfl rfl rfl (Pu.ev (pA rfl)) fun a hf => ?_
              intro w hc
              exact hj41 e_2.Speed.Hi e_4.Hi _ _  (hf.keep ⟨rfl, rfl, rfl, rfl, rfl, rfl, rfl, rfl, rfl, rfl, rfl, rfl, rfl, rfl, rfl, rfl, trivial⟩) hc hF
            · replace hF := condF hb hF
              clear hb
              refine wp_skip ?_
              exact hj41 e_2.Speed.Lo e_3.Lo _ _  (hf.keep ⟨rfl, rfl, rfl, rfl, rfl, rfl, rfl, rfl, rfl, rfl, rfl, rfl, rfl, rfl, rfl, rfl, trivial⟩) hc hF
          · replace hF := condF hb hF
            clear hb
            refine wp_exit ?_
            refine xThen ?_
            refine xThen ?_
            have he := Option.some.inj hF
            rw [← he] at hfin29
            refine cHit ?_
            exact hr29 _ _ _ hfin29 ⟨p_10, c_10, p_11, c_11, p_12, c_12, p_13, c_13, hf.keep ⟨rfl, rfl, rfl, rfl, rfl, rfl, rfl, rfl, rfl, rfl, rfl, rfl, rfl, trivial⟩, hc⟩
        · replace hF := condF hb hF
          clear hb
          refine wp_exit ?_
          refine xThen ?_
          refine xThen ?_
          have he := Option.some.inj hF
          rw [← he] at hfin19
          refine cHit ?_
          exact hr19 _ _ _ hfin19 ⟨p_8, c_8, p_9, c_9, hf.keep ⟨rfl, rfl, rfl, rfl, rfl, rfl, trivial⟩, hc⟩
      have ho16 : ∀ r, x16 = .out r → r = res := by
        rintro r rfl
        exact Option.some.inj hF
      replace hc := hc.drop k10
      replace hc := hc.drop k9
      replace hc := hc.drop k8
      replace hc := hc.drop k7
      replace hc := hc.drop k6
      replace hc := hc.drop k5
      refine cLoop N (loopW (S := S16) (x := x16) ?_ N (0, r_3.1.Verticals, r_4.1, r_4.2) _ _ ⟨p_5, c_5, hf.keep ⟨rfl, rfl, rfl, rfl, rfl, trivial⟩, hc⟩ hx16)
      clear hF hf hc
      rintro ⟨x, x_1, x_2, x_3⟩ st16 a w KB16 ⟨p_7, c_7, hf, hc⟩ hF hfin16 hK16
      unfold law03_GaugeTrue_b16 at hF
      refine wp_seq_k fun K47 h47 => ?_
      refine cReg ?_
      refine stP hf rfl rfl rfl (pLt rfl rfl) fun a hf => ?_
      refine cNil ?_
      refine h47 _ _ ?_
      refine wp_seq_k fun K48 h48 => ?_
      refine cCond (b := (decide (x < 5))) hf rfl (fun hb => ?_) (fun hb => ?_)
      · replace hF := condT hb hF
        clear hb
        refine wp_skip ?_
        refine h48 _ _ ?_
        refine wp_seq_k fun K49 h49 => ?_
        refine wp_block ?_
        refine wp_seq_k fun K50 h50 => ?_
        refine cReg ?_
        refine stP hf rfl rfl rfl (pA rfl) fun a hf => ?_
        refine stP hf rfl rfl rfl (pA rfl) fun a hf => ?_
        refine cNil ?_
        refine h50 _ _ ?_
        refine wp_seq_k fun K51 h51 => ?_
        refine wp_seq_k fun K52 h52 => ?_
        refine cReg ?_
        refine stP hf rfl rfl rfl (pFA fa_48_2 rfl) fun a hf => ?_
        refine stE hf hc rfl rfl rfl (eLd1 sc_46 rfl (cell_box m4 rfl)) fun a w hf hc => ?_
        refine stP hf rfl rfl rfl (pLenS Try.underlying46 rfl) fun a hf => ?_
        refine stP hf rfl rfl rfl (pM rfl) fun a hf => ?_
        refine cNil ?_
        refine h52 _ _ ?_
        refine wp_block ?_
        obtain ⟨x53, hx53, hF⟩ := bnd_some hF
        let S53 : ((List Int) × (List Int) × (List gauge_Vertical) × Int × Int × Int) → Act → World → Prop := (fun (zz : (List Int) × (List Int) × (List gauge_Vertical) × Int × Int × Int) a w => ∃ (p_16 : Option Addr) (c_16 : Nat) (p_17 : Option Addr) (c_17 : Nat) (p_18 : Option Addr) (c_18 : Nat), Has 219 a [(8, .pointer (some ⟨b_5, 0, none⟩)), (9, .pointer (some ⟨b_7, 0, none⟩)), (10, .pointer (some ⟨b_8, 0, none⟩)), (12, .slice p_6 r_6.1.length c_6), (15, .slice p_16 zz.1.length c_16), (16, .slice p_17 zz.2.1.length c_17), (86, .int .i64 x), (89, .slice p_18 zz.2.2.1.length c_18), (90, .int .i64 ((x_1.length : Nat) : Int)), (91, .int .i64 zz.2.2.2.1)] ∧ Ctx G (.row p_17 c_17 (zz.2.1.map encI_i64) 3 1 :: .row p_16 c_16 (zz.1.map encI_i64) 3 1 :: .row p_18 c_18 (zz.2.2.1.map enc_gauge_Vertical) 61 5 :: .row p_6 c_6 (r_6.1.map enc_api_Span) 24 2 :: .box b_8 [.int .i64 r_5.1.Lo, .int .i64 r_5.1.Hi] 24 :: .box b_7 [.slice tries_p tries.length tries_c, .int .i64 zz.2.2.2.2.1, .int .i64 zz.2.2.2.2.2] 104 :: .box b_5 [.int .i64 r_3.1.Left, .int .i64 r_3.1.Right, .slice p_18 zz.2.2.1.length c_18] 48 :: Lf) w)
        have hr53 : ∀ (zz : (List Int) × (List Int) × (List gauge_Vertical) × Int × Int × Int) a w, x53 = .go zz → S53 zz a w → K51 a w := by
          rintro ⟨depths_1, speeds_1, x_8, x_9, x_10, x_11⟩ a w rfl ⟨p_16, c_16, p_17, c_17, p_18, c_18, hf, hc⟩
          replace hF : _ = some st16 := hF
          refine h51 _ _ ?_
          refine wp_seq_k fun K54 h54 => ?_
          refine cReg ?_
          refine stE hf hc rfl rfl rfl (eLdN (vs := [.int .i64 r_3.1.Left, .int .i64 r_3.1.Right, .slice p_18 x_8.length c_18]) ag_48 rfl rfl (cells_box (n := 3) m6 rfl)) fun a w hf hc => ?_
          refine stP hf rfl rfl rfl (pM rfl) fun a hf => ?_
          refine stP hf rfl rfl rfl (pM rfl) fun a hf => ?_
          obtain ⟨r_10, hr_10, hF⟩ := bnd_some hF
          refine stE hf hc rfl rfl rfl (eC (v := .tuple #[.int .i64 r_10.1, .int .i64 r_10.2]) (vs := [.agg #[.int .i64 r_3.1.Left, .int .i64 r_3.1.Right, .slice p_18 x_8.length c_18], .slice p_16 depths_1.length c_16, .slice p_17 speeds_1.length c_17]) (caps := []) en_33 rfl rfl rfl rfl (fun w hc => by obtain ⟨G1, hle1, hrd1, hc, hth1⟩ := lend hc k2; obtain ⟨G2, hle2, hrd2, hc, hth2⟩ := lend hc k1; obtain ⟨G3, hle3, hrd3, hc, hth3⟩ := lend hc k0; exact (gauge_Real_ok (⟨r_3.1.Left, r_3.1.Right, x_8⟩ : gauge_Gauging) depths_1 speeds_1 ((hrd1.mono hle2).mono hle3) (hrd2.mono hle3) hrd3 hc hr_10).mono fun e w h => ⟨h.1, ((hth1 _ _ ((hth2 _ _ ((hth3 _ _ h.2).unpick k0)).unpick k1)).unpick k2)⟩)) fun a w hf hc => ?_
          refine stP hf rfl rfl rfl (pM rfl) fun a hf => ?_
          refine stP hf rfl rfl rfl (pX rfl rfl) fun a hf => ?_
          refine stP hf rfl rfl rfl (pX rfl rfl) fun a hf => ?_
          refine stP hf rfl rfl rfl (pA rfl) fun a hf => ?_
          refine stP hf rfl rfl rfl (pA rfl) fun a hf => ?_
          refine cNil ?_
          refine h54 _ _ ?_
          refine wp_seq_k fun K55 h55 => ?_
          refine cReg ?_
          refine stP hf rfl rfl rfl (pM rfl) fun a hf => ?_
          refine stP hf rfl rfl rfl (pNe rfl rfl) fun a hf => ?_
          refine stP hf rfl rfl rfl (pM rfl) fun a hf => ?_
          refine stCut 5 (fun a w => Has 219 a [(8, .pointer (some ⟨b_5, 0, none⟩)), (9, .pointer (some ⟨b_7, 0, none⟩)), (10, .pointer (some ⟨b_8, 0, none⟩)), (12, .slice p_6 r_6.1.length c_6), (86, .int .i64 x), (14, .int .i64 r_10.1), (11, .int .i64 r_10.2), (125, .int .i64 r_10.2), (126, .bool (r_10.2 != 0)), (127, .bool (r_10.2 != 0)), (132, .bool ((r_10.2 != 0) || (decide (r_10.1 < r_5.1.Lo))))] ∧ Ctx G (.row p_17 c_17 (speeds_1.map encI_i64) 3 1 :: .row p_16 c_16 (depths_1.map encI_i64) 3 1 :: .row p_18 c_18 (x_8.map enc_gauge_Vertical) 61 5 :: .row p_6 c_6 (r_6.1.map enc_api_Span) 24 2 :: .box b_8 [.int .i64 r_5.1.Lo, .int .i64 r_5.1.Hi] 24 :: .box b_7 [.slice tries_p tries.length tries_c, .int .i64 x_10, .int .i64 x_11] 104 :: .box b_5 [.int .i64 r_3.1.Left, .int .i64 r_3.1.Right, .slice p_18 x_8.length c_18] 48 :: Lf) w) ?_ ?_
          · cases hb : (r_10.2 != 0)
            · rw [hb] at hf
              refine stP hf rfl rfl rfl (pM rfl) fun a hf => ?_
              refine stP hf rfl rfl rfl (pFA fa_24_0 rfl) fun a hf => ?_
              refine stE hf hc rfl rfl rfl (eLd1 sc_3 rfl (cell_box m4 rfl)) fun a w hf hc => ?_
              refine stP hf rfl rfl rfl (pLt rfl rfl) fun a hf => ?_
              refine stP hf rfl rfl rfl (pPf rfl rfl) fun a hf => ?_
              exact cNil ⟨hf.keep ⟨rfl, rfl, rfl, rfl, rfl, rfl, rfl, rfl, rfl, rfl, rfl, trivial⟩, hc⟩
            · rw [hb] at hf
              refine stS hf rfl rfl rfl fun a hf => ?_
              refine stS hf rfl rfl rfl fun a hf => ?_
              refine stS hf rfl rfl rfl fun a hf => ?_
              refine stS hf rfl rfl rfl fun a hf => ?_
              refine stP hf rfl rfl rfl (pPt rfl rfl) fun a hf => ?_
              exact cNil ⟨hf.keep ⟨rfl, rfl, rfl, rfl, rfl, rfl, rfl, rfl, rfl, rfl, rfl, trivial⟩, hc⟩
          intro a w ⟨hf, hc⟩
          refine stP hf rfl rfl rfl (pM rfl) fun a hf => ?_
          refine stCut 5 (fun a w => Has 219 a [(8, .pointer (some ⟨b_5, 0, none⟩)), (9, .pointer (some ⟨b_7, 0, none⟩)), (10, .pointer (some ⟨b_8, 0, none⟩)), (12, .slice p_6 r_6.1.length c_6), (86, .int .i64 x), (14, .int .i64 r_10.1), (11, .int .i64 r_10.2), (125, .int .i64 r_10.2), (126, .bool (r_10.2 != 0)), (127, .bool (r_10.2 != 0)), (132, .bool ((r_10.2 != 0) || (decide (r_10.1 < r_5.1.Lo)))), (133, .bool ((r_10.2 != 0) || (decide (r_10.1 < r_5.1.Lo)))), (138, .bool (((r_10.2 != 0) || (decide (r_10.1 < r_5.1.Lo))) || (decide (r_5.1.Hi < r_10.1))))] ∧ Ctx G (.row p_17 c_17 (speeds_1.map encI_i64) 3 1 :: .row p_16 c_16 (depths_1.map encI_i64) 3 1 :: .row p_18 c_18 (x_8.map enc_gauge_Vertical) 61 5 :: .row p_6 c_6 (r_6.1.map enc_api_Span) 24 2 :: .box b_8 [.int .i64 r_5.1.Lo, .int .i64 r_5.1.Hi] 24 :: .box b_7 [.slice tries_p tries.length tries_c, .int .i64 x_10, .int .i64 x_11] 104 :: .box b_5 [.int .i64 r_3.1.Left, .int .i64 r_3.1.Right, .slice p_18 x_8.length c_18] 48 :: Lf) w) ?_ ?_
          · cases hb : ((r_10.2 != 0) || (decide (r_10.1 < r_5.1.Lo)))
            · rw [hb] at hf
              refine stP hf rfl rfl rfl (pM rfl) fun a hf => ?_
              refine stP hf rfl rfl rfl (pFA fa_24_1 rfl) fun a hf => ?_
              refine stE hf hc rfl rfl rfl (eLd1 sc_3 rfl (cell_box m4 rfl)) fun a w hf hc => ?_
              refine stP hf rfl rfl rfl (pGt rfl rfl) fun a hf => ?_
              refine stP hf rfl rfl rfl (pPf rfl rfl) fun a hf => ?_
              exact cNil ⟨hf.keep ⟨rfl, rfl, rfl, rfl, rfl, rfl, rfl, rfl, rfl, rfl, rfl, rfl, rfl, trivial⟩, hc⟩
            · rw [hb] at hf
              refine stS hf rfl rfl rfl fun a hf => ?_
              refine stS hf rfl rfl rfl fun a hf => ?_
              refine stS hf rfl rfl rfl fun a hf => ?_
              refine stS hf rfl rfl rfl fun a hf => ?_
              refine stP hf rfl rfl rfl (pPt rfl rfl) fun a hf => ?_
              exact cNil ⟨hf.keep ⟨rfl, rfl, rfl, rfl, rfl, rfl, rfl, rfl, rfl, rfl, rfl, rfl, rfl, trivial⟩, hc⟩
          intro a w ⟨hf, hc⟩
          refine cNil ?_
          refine h55 _ _ ?_
          refine cCond (b := (((r_10.2 != 0) || (decide (r_10.1 < r_5.1.Lo))) || (decide (r_5.1.Hi < r_10.1)))) hf rfl (fun hb => ?_) (fun hb => ?_)
          · replace hF := condT hb hF
            clear hb
            refine wp_seq_k fun K56 h56 => ?_
            refine cReg ?_
            refine stP hf rfl rfl rfl (pA rfl) fun a hf => ?_
            refine cNil ?_
            refine h56 _ _ ?_
            refine wp_ret ?_
            refine xBlkR ?_
            refine xThenR ?_
            refine xThenR ?_
            have he := Option.some.inj hF
            rw [← he] at hfin16
            replace hF := ho16 _ hfin16
            refine xBlkR ?_
            refine xThenR ?_
            obtain rfl := hF
            replace hc := hc.drop k6
            replace hc := hc.drop k5
            replace hc := hc.drop k4
            replace hc := hc.drop k3
            replace hc := hc.drop k2
            replace hc := hc.drop k1
            replace hc := hc.drop k0
            exact fnOut1 (by simp) rfl Try.results7 hf hc (show look _ 6 = _ from rfl) ⟨rfl, hc⟩
          · replace hF := condF hb hF
            clear hb
            refine wp_skip ?_
            refine h49 _ _ ?_
            refine cReg ?_
            refine stP hf rfl rfl rfl (pAdd rfl rfl) fun a hf => ?_
            refine stP hf rfl rfl rfl (pM rfl) fun a hf => ?_
            refine cNil ?_
            replace hc := hc.drop k1
            replace hc := hc.drop k0
            exact hK16 (W (x + 1), x_8, x_10, x_11) _ _ (Option.some.inj hF).symm ⟨p_18, c_18, hf.keep ⟨rfl, rfl, rfl, rfl, rfl, trivial⟩, hc⟩
        have ho53 : ∀ r, x53 = .out r → r = st16 := by
          rintro r rfl
          exact Option.some.inj hF
        replace hc := hc.nilRow 3 1
        replace hc := hc.nilRow 3 1
        refine cLoop N (loopW (S := S53) (x := x53) ?_ N (([] : List Int), ([] : List Int), x_1, 0, x_2, x_3) _ _ ⟨none, 0, none, 0, p_7, c_7, hf.keep ⟨rfl, rfl, rfl, rfl, rfl, rfl, rfl, rfl, rfl, rfl, trivial⟩, hc⟩ hx53)
        clear hF hf hc
        rintro ⟨depths_1, speeds_1, x_8, x_9, x_10, x_11⟩ st53 a w KB53 ⟨p_16, c_16, p_17, c_17, p_18, c_18, hf, hc⟩ hF hfin53 hK53
        unfold law03_GaugeTrue_b53 at hF
        refine wp_seq_k fun K57 h57 => ?_
        refine cReg ?_
        refine stP hf rfl rfl rfl (pLt rfl rfl) fun a hf => ?_
        refine cNil ?_
        refine h57 _ _ ?_
        refine wp_seq_k fun K58 h58 => ?_
        refine cCond (b := (decide (x_9 < ((x_1.length : Nat) : Int)))) hf rfl (fun hb => ?_) (fun hb => ?_)
        · replace hF := condT hb hF
          clear hb
          refine wp_skip ?_
          refine h58 _ _ ?_
          refine wp_seq_k fun K59 h59 => ?_
          refine wp_block ?_
          refine wp_seq_k fun K60 h60 => ?_
          refine cReg ?_
          obtain ⟨e_5, he_5, hF⟩ := bnd_some hF
          obtain ⟨g_2, rfl, ha_4, hr_4⟩ := row_atm hc m2 he_5
          refine stP hf rfl rfl rfl (pIA Try.underlying46 sz_61 rfl rfl ha_4) fun a hf => ?_
          refine stE hf hc rfl rfl rfl (eLdN (vs := [.int .i64 e_5.At, .int .i64 e_5.Depth.Lo, .int .i64 e_5.Depth.Hi, .int .i64 e_5.Speed.Lo, .int .i64 e_5.Speed.Hi]) ag_61 rfl rfl (cells_rw m2 hr_4 (n := 5) (o' := 0) rfl)) fun a w hf hc => ?_
          refine stAl (cs := [.int .i64 0, .int .i64 0, .int .i64 0, .int .i64 0, .int .i64 0]) hf hc rfl rfl zr_61 rfl fun b_13 a w hf hc => ?_
          refine stSt (vs := [.int .i64 e_5.At, .int .i64 e_5.Depth.Lo, .int .i64 e_5.Depth.Hi, .int .i64 e_5.Speed.Lo, .int .i64 e_5.Speed.Hi]) hf hc rfl rfl rfl rfl sz_61 rfl rfl u0 fun w hc => ?_
          refine cNil ?_
          refine h60 _ _ ?_
          obtain ⟨r_11, hr_11, hF⟩ := bnd_some hF
          obtain ⟨un_2, hun_2, hF⟩ := bnd_some hF
          obtain ⟨r_12, hr_12, hF⟩ := bnd_some hF
          obtain ⟨un_3, hun_3, hF⟩ := bnd_some hF
          replace hc := hc.nilRow 0 0
          replace hc := hc.nilRow 0 0
          refine regionE (fun θ => (⟨none, none, 8, .pointer (some ⟨b_5, 0, none⟩)⟩ :: ⟨none, none, 9, .pointer (some ⟨b_7, 0, none⟩)⟩ :: ⟨none, none, 10, .pointer (some ⟨b_8, 0, none⟩)⟩ :: ⟨none, none, 12, .slice p_6 r_6.1.length c_6⟩ :: ⟨none, some 22, 15, .slice p_16 depths_1.length c_16⟩ :: ⟨none, some 23, 16, .slice p_17 speeds_1.length c_17⟩ :: ⟨none, none, 18, .pointer (some ⟨b_13, 0, none⟩)⟩ :: ⟨none, none, 86, .int .i64 x⟩ :: ⟨none, none, 89, .slice (some ⟨g_2, 0, none⟩) x_8.length c_18⟩ :: ⟨none, none, 90, .int .i64 ((x_1.length : Nat) : Int)⟩ :: ⟨none, none, 91, .int .i64 x_9⟩ :: ⟨some 0, none, 95, .slice p_16 depths_1.length c_16⟩ :: ⟨some 1, none, 96, .pointer (some ⟨b_7, 0, none⟩)⟩ :: ⟨some 2, none, 97, .pointer (some ⟨b_13, 1, none⟩)⟩ :: ⟨some 3, none, 98, .pointer (some ⟨b_13, 1, none⟩)⟩ :: ⟨some 4, none, 99, .int .i64 e_5.Depth.Lo⟩ :: ⟨some 5, none, 100, .pointer (some ⟨b_13, 1, none⟩)⟩ :: ⟨some 6, none, 101, .pointer (some ⟨b_13, 2, none⟩)⟩ :: ⟨some 7, none, 102, .int .i64 e_5.Depth.Hi⟩ :: ⟨some 8, none, 103, .int .i64 r_11.1⟩ :: ⟨some 9, none, 104, .slice (some ⟨(θ 72).b, 0, none⟩) 1 1⟩ :: ⟨some 10, none, 105, .slice ((θ 80).p) ((depths_1 ++ [r_11.1]).length) ((θ 80).c)⟩ :: ⟨some 11, none, 106, .slice p_17 speeds_1.length c_17⟩ :: ⟨some 12, none, 107, .pointer (some ⟨b_7, 0, none⟩)⟩ :: ⟨some 13, none, 108, .pointer (some ⟨b_13, 3, none⟩)⟩ :: ⟨some 14, none, 109, .pointer (some ⟨b_13, 3, none⟩)⟩ :: ⟨some 15, none, 110, .int .i64 e_5.Speed.Lo⟩ :: ⟨some 16, none, 111, .pointer (some ⟨b_13, 3, none⟩)⟩ :: ⟨some 17, none, 112, .pointer (some ⟨b_13, 4, none⟩)⟩ :: ⟨some 18, none, 113, .int .i64 e_5.Speed.Hi⟩ :: ⟨some 19, none, 114, .int .i64 r_12.1⟩ :: ⟨some 20, none, 115, .slice (some ⟨(θ 160).b, 0, none⟩) 1 1⟩ :: ⟨some 21, none, 116, .slice ((θ 168).p) ((speeds_1 ++ [r_12.1]).length) ((θ 168).c)⟩ :: ⟨some 22, none, 15, .slice ((θ 80).p) ((depths_1 ++ [r_11.1]).length) ((θ 80).c)⟩ :: ⟨some 23, none, 16, .slice ((θ 168).p) ((speeds_1 ++ [r_12.1]).length) ((θ 168).c)⟩ :: [])) (fun E θ => (bif E 20 then .row (some ⟨(θ 160).b, 0, none⟩) 1 (([r_12.1] : List Int).map encI_i64) 3 1 else .row none 0 [] 0 0) :: (bif E 9 then .row (some ⟨(θ 72).b, 0, none⟩) 1 (([r_11.1] : List Int).map encI_i64) 3 1 else .row none 0 [] 0 0) :: .box b_13 [.int .i64 e_5.At, .int .i64 e_5.Depth.Lo, .int .i64 e_5.Depth.Hi, .int .i64 e_5.Speed.Lo, .int .i64 e_5.Speed.Hi] 61 :: (bif E 21 then .row ((θ 168).p) ((θ 168).c) ((speeds_1 ++ [r_12.1]).map encI_i64) 3 1 else .row p_17 c_17 (speeds_1.map encI_i64) 3 1) :: (bif E 10 then .row ((θ 80).p) ((θ 80).c) ((depths_1 ++ [r_11.1]).map encI_i64) 3 1 else .row p_16 c_16 (depths_1.map encI_i64) 3 1) :: .row (some ⟨g_2, 0, none⟩) c_18 (x_8.map enc_gauge_Vertical) 61 5 :: .row p_6 c_6 (r_6.1.map enc_api_Span) 24 2 :: .box b_8 [.int .i64 r_5.1.Lo, .int .i64 r_5.1.Hi] 24 :: (bif E 19 then .box b_7 [.slice tries_p tries.length tries_c, .int .i64 r_12.2.1, .int .i64 r_12.2.2] 104 else bif E 8 then .box b_7 [.slice tries_p tries.length tries_c, .int .i64 r_11.2.1, .int .i64 r_11.2.2] 104 else .box b_7 [.slice tries_p tries.length tries_c, .int .i64 x_10, .int .i64 x_11] 104) :: .box b_5 [.int .i64 r_3.1.Left, .int .i64 r_3.1.Right, .slice (some ⟨g_2, 0, none⟩) x_8.length c_18] 48 :: Lf) [(10, 8), (22, 0), (19, 10), (22, 10), (23, 11), (23, 21)] (fun a w => ∃ (p_21 : Option Addr) (c_21 : Nat) (p_22 : Option Addr) (c_22 : Nat) (b_16 : Nat) (b_17 : Nat), Has 219 a [(8, .pointer (some ⟨b_5, 0, none⟩)), (9, .pointer (some ⟨b_7, 0, none⟩)), (10, .pointer (some ⟨b_8, 0, none⟩)), (12, .slice p_6 r_6.1.length c_6), (86, .int .i64 x), (89, .slice (some ⟨g_2, 0, none⟩) x_8.length c_18), (90, .int .i64 ((x_1.length : Nat) : Int)), (91, .int .i64 x_9), (15, .slice p_21 ((depths_1 ++ [r_11.1]).length) c_21), (16, .slice p_22 ((speeds_1 ++ [r_12.1]).length) c_22)] ∧ Ctx G (.row (some ⟨b_16, 0, none⟩) 1 (([r_12.1] : List Int).map encI_i64) 3 1 :: .row (some ⟨b_17, 0, none⟩) 1 (([r_11.1] : List Int).map encI_i64) 3 1 :: .box b_13 [.int .i64 e_5.At, .int .i64 e_5.Depth.Lo, .int .i64 e_5.Depth.Hi, .int .i64 e_5.Speed.Lo, .int .i64 e_5.Speed.Hi] 61 :: .row p_22 c_22 ((speeds_1 ++ [r_12.1]).map encI_i64) 3 1 :: .row p_21 c_21 ((depths_1 ++ [r_11.1]).map encI_i64) 3 1 :: .row (some ⟨g_2, 0, none⟩) c_18 (x_8.map enc_gauge_Vertical) 61 5 :: .row p_6 c_6 (r_6.1.map enc_api_Span) 24 2 :: .box b_8 [.int .i64 r_5.1.Lo, .int .i64 r_5.1.Hi] 24 :: .box b_7 [.slice tries_p tries.length tries_c, .int .i64 r_12.2.1, .int .i64 r_12.2.2] 104 :: .box b_5 [.int .i64 r_3.1.Left, .int .i64 r_3.1.Right, .slice (some ⟨g_2, 0, none⟩) x_8.length c_18] 48 :: Lf) w) follows_mx (by kernel_rfl) (by kernel_rfl) (HasE.of hf ⟨rfl, rfl, rfl, rfl, rfl, rfl, rfl, rfl, rfl, rfl, rfl, trivial, trivial, trivial, trivial, trivial, trivial, trivial, trivial, trivial, trivial, trivial, trivial, trivial, trivial, trivial, trivial, trivial, trivial, trivial, trivial, trivial, trivial, trivial, trivial, trivial⟩) hc ⟨?_, ?_, ?_, ?_, ?_, ?_, ?_, ?_, ?_, ?_, ?_, ?_, ?_, ?_, ?_, ?_, ?_, ?_, ?_, ?_, ?_, ?_, ?_, ?_, trivial⟩ ?_ ?_
          · intro E θ a w hD hi hp he hc
            have e22 := hD.f 1 rfl hi
            have hf := he.h0
            replace hf := hf.more he 4 rfl (onN e22)
            refine stP hf rfl rfl rfl (pM rfl) fun a hf => ?_
            refine cNil ?_
            refine xThenN ?_
            intro ds u hau
            refine ⟨θ, he.put0 hi hau hf rfl 11 rfl rfl, ?_⟩
            exact hc
          · intro E θ a w hD hi hp he hc
            have hf := he.h0
            replace hf := hf.more he 1 rfl onT
            refine stP hf rfl rfl rfl (pM rfl) fun a hf => ?_
            refine cNil ?_
            refine xThenN ?_
            intro ds u hau
            refine ⟨θ, he.put0 hi hau hf rfl 12 rfl rfl, ?_⟩
            exact hc
          · intro E θ a w hD hi hp he hc
            have hf := he.h0
            replace hf := hf.more he 6 rfl onT
            refine stP hf rfl rfl rfl (pFA fa_61_1 rfl) fun a hf => ?_
            refine cNil ?_
            refine xThenN ?_
            intro ds u hau
            refine ⟨θ, he.put0 hi hau hf rfl 13 rfl rfl, ?_⟩
            exact hc
          · intro E θ a w hD hi hp he hc
            have e2 := hp.of (k := 2) rfl
            have hf := he.h0
            replace hf := hf.more he 13 rfl (onP e2)
            refine stP hf rfl rfl rfl (pFA fa_24_0 rfl) fun a hf => ?_
            refine cNil ?_
            refine xThenN ?_
            intro ds u hau
            refine ⟨θ, he.put0 hi hau hf rfl 14 rfl rfl, ?_⟩
            exact hc
          · intro E θ a w hD hi hp he hc
            have e3 := hp.of (k := 3) rfl
            have hf := he.h0
            replace hf := hf.more he 14 rfl (onP e3)
            refine stE hf hc rfl rfl rfl (eLd1 sc_3 rfl (cell_box m2 rfl)) fun a w hf hc => ?_
            refine cNil ?_
            refine xThenN ?_
            intro ds u hau
            refine ⟨θ, he.put0 hi hau hf rfl 15 rfl rfl, ?_⟩
            exact hc
          · intro E θ a w hD hi hp he hc
            have hf := he.h0
            replace hf := hf.more he 6 rfl onT
            refine stP hf rfl rfl rfl (pFA fa_61_1 rfl) fun a hf => ?_
            refine cNil ?_
            refine xThenN ?_
            intro ds u hau
            refine ⟨θ, he.put0 hi hau hf rfl 16 rfl rfl, ?_⟩
            exact hc
          · intro E θ a w hD hi hp he hc
            have e5 := hp.of (k := 5) rfl
            have hf := he.h0
            replace hf := hf.more he 16 rfl (onP e5)
            refine stP hf rfl rfl rfl (pFA fa_24_1 rfl) fun a hf => ?_
            refine cNil ?_
            refine xThenN ?_
            intro ds u hau
            refine ⟨θ, he.put0 hi hau hf rfl 17 rfl rfl, ?_⟩
            exact hc
          · intro E θ a w hD hi hp he hc
            have e6 := hp.of (k := 6) rfl
            have hf := he.h0
            replace hf := hf.more he 17 rfl (onP e6)
            refine stE hf hc rfl rfl rfl (eLd1 sc_3 rfl (cell_box m2 rfl)) fun a w hf hc => ?_
            refine cNil ?_
            refine xThenN ?_
            intro ds u hau
            refine ⟨θ, he.put0 hi hau hf rfl 18 rfl rfl, ?_⟩
            exact hc
          · intro E θ a w hD hi hp he hc
            have e1 := hp.of (k := 1) rfl
            have e4 := hp.of (k := 4) rfl
            have e7 := hp.of (k := 7) rfl
            have e10 := hD.f 0 rfl hi
            have e19 := hD.f 2 rfl e10
            replace hc : Ctx G ((bif E 20 then .row (some ⟨(θ 160).b, 0, none⟩) 1 (([r_12.1] : List Int).map encI_i64) 3 1 else .row none 0 [] 0 0) :: (bif E 9 then .row (some ⟨(θ 72).b, 0, none⟩) 1 (([r_11.1] : List Int).map encI_i64) 3 1 else .row none 0 [] 0 0) :: .box b_13 [.int .i64 e_5.At, .int .i64 e_5.Depth.Lo, .int .i64 e_5.Depth.Hi, .int .i64 e_5.Speed.Lo, .int .i64 e_5.Speed.Hi] 61 :: (bif E 21 then .row ((θ 168).p) ((θ 168).c) ((speeds_1 ++ [r_12.1]).map encI_i64) 3 1 else .row p_17 c_17 (speeds_1.map encI_i64) 3 1) :: (bif E 10 then .row ((θ 80).p) ((θ 80).c) ((depths_1 ++ [r_11.1]).map encI_i64) 3 1 else .row p_16 c_16 (depths_1.map encI_i64) 3 1) :: .row (some ⟨g_2, 0, none⟩) c_18 (x_8.map enc_gauge_Vertical) 61 5 :: .row p_6 c_6 (r_6.1.map enc_api_Span) 24 2 :: .box b_8 [.int .i64 r_5.1.Lo, .int .i64 r_5.1.Hi] 24 :: (bif E 19 then .box b_7 [.slice tries_p tries.length tries_c, .int .i64 r_12.2.1, .int .i64 r_12.2.2] 104 else bif E 8 then .box b_7 [.slice tries_p tries.length tries_c, .int .i64 r_11.2.1, .int .i64 r_11.2.2] 104 else .box b_7 [.slice tries_p tries.length tries_c, .int .i64 x_10, .int .i64 x_11] 104) :: .box b_5 [.int .i64 r_3.1.Left, .int .i64 r_3.1.Right, .slice (some ⟨g_2, 0, none⟩) x_8.length c_18] 48 :: Lf) w := hc
            rw [hi, e19] at hc
            replace hc : Ctx G ((bif E 20 then .row (some ⟨(θ 160).b, 0, none⟩) 1 (([r_12.1] : List Int).map encI_i64) 3 1 else .row none 0 [] 0 0) :: (bif E 9 then .row (some ⟨(θ 72).b, 0, none⟩) 1 (([r_11.1] : List Int).map encI_i64) 3 1 else .row none 0 [] 0 0) :: .box b_13 [.int .i64 e_5.At, .int .i64 e_5.Depth.Lo, .int .i64 e_5.Depth.Hi, .int .i64 e_5.Speed.Lo, .int .i64 e_5.Speed.Hi] 61 :: (bif E 21 then .row ((θ 168).p) ((θ 168).c) ((speeds_1 ++ [r_12.1]).map encI_i64) 3 1 else .row p_17 c_17 (speeds_1.map encI_i64) 3 1) :: (bif E 10 then .row ((θ 80).p) ((θ 80).c) ((depths_1 ++ [r_11.1]).map encI_i64) 3 1 else .row p_16 c_16 (depths_1.map encI_i64) 3 1) :: .row (some ⟨g_2, 0, none⟩) c_18 (x_8.map enc_gauge_Vertical) 61 5 :: .row p_6 c_6 (r_6.1.map enc_api_Span) 24 2 :: .box b_8 [.int .i64 r_5.1.Lo, .int .i64 r_5.1.Hi] 24 :: .box b_7 [.slice tries_p tries.length tries_c, .int .i64 x_10, .int .i64 x_11] 104 :: .box b_5 [.int .i64 r_3.1.Left, .int .i64 r_3.1.Right, .slice (some ⟨g_2, 0, none⟩) x_8.length c_18] 48 :: Lf) w := hc
            have hf := he.h0
            replace hf := hf.more he 12 rfl (onP e1)
            replace hf := hf.more he 15 rfl (onP e4)
            replace hf := hf.more he 18 rfl (onP e7)
            refine stC (vs := [.pointer (some ⟨b_7, 0, none⟩), .int .i64 e_5.Depth.Lo, .int .i64 e_5.Depth.Hi]) (caps := []) hf rfl rfl rfl en_12 rfl rfl rfl rfl (kit_Stream_Within_ok (⟨tries, x_10, x_11⟩ : kit_Stream) e_5.Depth.Lo e_5.Depth.Hi h_tries (hc.pick k8) hr_11) ?_
            rintro _ w ⟨rfl, hc⟩
            refine ⟨_, rfl, fun a hf => ?_⟩
            refine cNil ?_
            refine xThenN ?_
            intro ds u hau
            replace hc := hc.pick k0
            replace hc := hc.pick k8
            replace hc := hc.pick k8
            replace hc := hc.pick k8
            replace hc := hc.pick k8
            replace hc := hc.pick k8
            replace hc := hc.pick k8
            replace hc := hc.pick k8
            replace hc := hc.pick k8
            refine ⟨θ, he.put0 hi hau hf rfl 19 rfl rfl, ?_⟩
            show Ctx G ((bif E 20 then .row (some ⟨(θ 160).b, 0, none⟩) 1 (([r_12.1] : List Int).map encI_i64) 3 1 else .row none 0 [] 0 0) :: (bif E 9 then .row (some ⟨(θ 72).b, 0, none⟩) 1 (([r_11.1] : List Int).map encI_i64) 3 1 else .row none 0 [] 0 0) :: .box b_13 [.int .i64 e_5.At, .int .i64 e_5.Depth.Lo, .int .i64 e_5.Depth.Hi, .int .i64 e_5.Speed.Lo, .int .i64 e_5.Speed.Hi] 61 :: (bif E 21 then .row ((θ 168).p) ((θ 168).c) ((speeds_1 ++ [r_12.1]).map encI_i64) 3 1 else .row p_17 c_17 (speeds_1.map encI_i64) 3 1) :: (bif E 10 then .row ((θ 80).p) ((θ 80).c) ((depths_1 ++ [r_11.1]).map encI_i64) 3 1 else .row p_16 c_16 (depths_1.map encI_i64) 3 1) :: .row (some ⟨g_2, 0, none⟩) c_18 (x_8.map enc_gauge_Vertical) 61 5 :: .row p_6 c_6 (r_6.1.map enc_api_Span) 24 2 :: .box b_8 [.int .i64 r_5.1.Lo, .int .i64 r_5.1.Hi] 24 :: (bif E 19 then .box b_7 [.slice tries_p tries.length tries_c, .int .i64 r_12.2.1, .int .i64 r_12.2.2] 104 else bif true then .box b_7 [.slice tries_p tries.length tries_c, .int .i64 r_11.2.1, .int .i64 r_11.2.2] 104 else .box b_7 [.slice tries_p tries.length tries_c, .int .i64 x_10, .int .i64 x_11] 104) :: .box b_5 [.int .i64 r_3.1.Left, .int .i64 r_3.1.Right, .slice (some ⟨g_2, 0, none⟩) x_8.length c_18] 48 :: Lf) w
            rw [e19]
            exact hc
          · intro E θ a w hD hi hp he hc
            have e8 := hp.of (k := 8) rfl
            replace hc : Ctx G ((bif E 20 then .row (some ⟨(θ 160).b, 0, none⟩) 1 (([r_12.1] : List Int).map encI_i64) 3 1 else .row none 0 [] 0 0) :: (bif E 9 then .row (some ⟨(θ 72).b, 0, none⟩) 1 (([r_11.1] : List Int).map encI_i64) 3 1 else .row none 0 [] 0 0) :: .box b_13 [.int .i64 e_5.At, .int .i64 e_5.Depth.Lo, .int .i64 e_5.Depth.Hi, .int .i64 e_5.Speed.Lo, .int .i64 e_5.Speed.Hi] 61 :: (bif E 21 then .row ((θ 168).p) ((θ 168).c) ((speeds_1 ++ [r_12.1]).map encI_i64) 3 1 else .row p_17 c_17 (speeds_1.map encI_i64) 3 1) :: (bif E 10 then .row ((θ 80).p) ((θ 80).c) ((depths_1 ++ [r_11.1]).map encI_i64) 3 1 else .row p_16 c_16 (depths_1.map encI_i64) 3 1) :: .row (some ⟨g_2, 0, none⟩) c_18 (x_8.map enc_gauge_Vertical) 61 5 :: .row p_6 c_6 (r_6.1.map enc_api_Span) 24 2 :: .box b_8 [.int .i64 r_5.1.Lo, .int .i64 r_5.1.Hi] 24 :: (bif E 19 then .box b_7 [.slice tries_p tries.length tries_c, .int .i64 r_12.2.1, .int .i64 r_12.2.2] 104 else bif E 8 then .box b_7 [.slice tries_p tries.length tries_c, .int .i64 r_11.2.1, .int .i64 r_11.2.2] 104 else .box b_7 [.slice tries_p tries.length tries_c, .int .i64 x_10, .int .i64 x_11] 104) :: .box b_5 [.int .i64 r_3.1.Left, .int .i64 r_3.1.Right, .slice (some ⟨g_2, 0, none⟩) x_8.length c_18] 48 :: Lf) w := hc
            rw [hi] at hc
            replace hc : Ctx G ((bif E 20 then .row (some ⟨(θ 160).b, 0, none⟩) 1 (([r_12.1] : List Int).map encI_i64) 3 1 else .row none 0 [] 0 0) :: .row none 0 [] 0 0 :: .box b_13 [.int .i64 e_5.At, .int .i64 e_5.Depth.Lo, .int .i64 e_5.Depth.Hi, .int .i64 e_5.Speed.Lo, .int .i64 e_5.Speed.Hi] 61 :: (bif E 21 then .row ((θ 168).p) ((θ 168).c) ((speeds_1 ++ [r_12.1]).map encI_i64) 3 1 else .row p_17 c_17 (speeds_1.map encI_i64) 3 1) :: (bif E 10 then .row ((θ 80).p) ((θ 80).c) ((depths_1 ++ [r_11.1]).map encI_i64) 3 1 else .row p_16 c_16 (depths_1.map encI_i64) 3 1) :: .row (some ⟨g_2, 0, none⟩) c_18 (x_8.map enc_gauge_Vertical) 61 5 :: .row p_6 c_6 (r_6.1.map enc_api_Span) 24 2 :: .box b_8 [.int .i64 r_5.1.Lo, .int .i64 r_5.1.Hi] 24 :: (bif E 19 then .box b_7 [.slice tries_p tries.length tries_c, .int .i64 r_12.2.1, .int .i64 r_12.2.2] 104 else bif E 8 then .box b_7 [.slice tries_p tries.length tries_c, .int .i64 r_11.2.1, .int .i64 r_11.2.2] 104 else .box b_7 [.slice tries_p tries.length tries_c, .int .i64 x_10, .int .i64 x_11] 104) :: .box b_5 [.int .i64 r_3.1.Left, .int .i64 r_3.1.Right, .slice (some ⟨g_2, 0, none⟩) x_8.length c_18] 48 :: Lf) w := hc
            have hf := he.h0
            replace hf := hf.more he 19 rfl (onP e8)
            refine stBS (rows := ([r_11.1] : List Int).map encI_i64) (vs := [(0, .int .i64 r_11.1)]) hf hc rfl rfl sl_43 rfl ⟨rfl, rfl, rfl, trivial⟩ rfl rfl fun b_14 a w hf hc => ?_
            refine cNil ?_
            refine xThenN ?_
            intro ds u hau
            replace hc := hc.drop k2
            replace hc := hc.pick k0
            replace hc := hc.pick k1
            refine ⟨(setT θ 72 ⟨b_14, none, 0⟩), he.put hi hau hf rfl [] trivial ⟨qq, qq, qq, qq, qq, qq, qq, qq, qq, qq, qq, qq, qq, qq, qq, qq, qq, qq, qq, qq, qq, qq, qq, qq, qq, qq, qq, qq, qq, qq, qq, qq, qq, qq, qq, trivial⟩, ?_⟩
            show Ctx G ((bif E 20 then .row (some ⟨(θ 160).b, 0, none⟩) 1 (([r_12.1] : List Int).map encI_i64) 3 1 else .row none 0 [] 0 0) :: (bif true then .row (some ⟨b_14, 0, none⟩) 1 (([r_11.1] : List Int).map encI_i64) 3 1 else .row none 0 [] 0 0) :: .box b_13 [.int .i64 e_5.At, .int .i64 e_5.Depth.Lo, .int .i64 e_5.Depth.Hi, .int .i64 e_5.Speed.Lo, .int .i64 e_5.Speed.Hi] 61 :: (bif E 21 then .row ((θ 168).p) ((θ 168).c) ((speeds_1 ++ [r_12.1]).map encI_i64) 3 1 else .row p_17 c_17 (speeds_1.map encI_i64) 3 1) :: (bif E 10 then .row ((θ 80).p) ((θ 80).c) ((depths_1 ++ [r_11.1]).map encI_i64) 3 1 else .row p_16 c_16 (depths_1.map encI_i64) 3 1) :: .row (some ⟨g_2, 0, none⟩) c_18 (x_8.map enc_gauge_Vertical) 61 5 :: .row p_6 c_6 (r_6.1.map enc_api_Span) 24 2 :: .box b_8 [.int .i64 r_5.1.Lo, .int .i64 r_5.1.Hi] 24 :: (bif E 19 then .box b_7 [.slice tries_p tries.length tries_c, .int .i64 r_12.2.1, .int .i64 r_12.2.2] 104 else bif E 8 then .box b_7 [.slice tries_p tries.length tries_c, .int .i64 r_11.2.1, .int .i64 r_11.2.2] 104 else .box b_7 [.slice tries_p tries.length tries_c, .int .i64 x_10, .int .i64 x_11] 104) :: .box b_5 [.int .i64 r_3.1.Left, .int .i64 r_3.1.Right, .slice (some ⟨g_2, 0, none⟩) x_8.length c_18] 48 :: Lf) w
            exact hc
          · intro E θ a w hD hi hp he hc
            have e0 := hp.of (k := 0) rfl
            have e9 := hp.of (k := 9) rfl
            have e22 := hD.f 3 rfl hi
            replace hc : Ctx G ((bif E 20 then .row (some ⟨(θ 160).b, 0, none⟩) 1 (([r_12.1] : List Int).map encI_i64) 3 1 else .row none 0 [] 0 0) :: (bif E 9 then .row (some ⟨(θ 72).b, 0, none⟩) 1 (([r_11.1] : List Int).map encI_i64) 3 1 else .row none 0 [] 0 0) :: .box b_13 [.int .i64 e_5.At, .int .i64 e_5.Depth.Lo, .int .i64 e_5.Depth.Hi, .int .i64 e_5.Speed.Lo, .int .i64 e_5.Speed.Hi] 61 :: (bif E 21 then .row ((θ 168).p) ((θ 168).c) ((speeds_1 ++ [r_12.1]).map encI_i64) 3 1 else .row p_17 c_17 (speeds_1.map encI_i64) 3 1) :: (bif E 10 then .row ((θ 80).p) ((θ 80).c) ((depths_1 ++ [r_11.1]).map encI_i64) 3 1 else .row p_16 c_16 (depths_1.map encI_i64) 3 1) :: .row (some ⟨g_2, 0, none⟩) c_18 (x_8.map enc_gauge_Vertical) 61 5 :: .row p_6 c_6 (r_6.1.map enc_api_Span) 24 2 :: .box b_8 [.int .i64 r_5.1.Lo, .int .i64 r_5.1.Hi] 24 :: (bif E 19 then .box b_7 [.slice tries_p tries.length tries_c, .int .i64 r_12.2.1, .int .i64 r_12.2.2] 104 else bif E 8 then .box b_7 [.slice tries_p tries.length tries_c, .int .i64 r_11.2.1, .int .i64 r_11.2.2] 104 else .box b_7 [.slice tries_p tries.length tries_c, .int .i64 x_10, .int .i64 x_11] 104) :: .box b_5 [.int .i64 r_3.1.Left, .int .i64 r_3.1.Right, .slice (some ⟨g_2, 0, none⟩) x_8.length c_18] 48 :: Lf) w := hc
            rw [e9, hi] at hc
            replace hc : Ctx G ((bif E 20 then .row (some ⟨(θ 160).b, 0, none⟩) 1 (([r_12.1] : List Int).map encI_i64) 3 1 else .row none 0 [] 0 0) :: .row (some ⟨(θ 72).b, 0, none⟩) 1 (([r_11.1] : List Int).map encI_i64) 3 1 :: .box b_13 [.int .i64 e_5.At, .int .i64 e_5.Depth.Lo, .int .i64 e_5.Depth.Hi, .int .i64 e_5.Speed.Lo, .int .i64 e_5.Speed.Hi] 61 :: (bif E 21 then .row ((θ 168).p) ((θ 168).c) ((speeds_1 ++ [r_12.1]).map encI_i64) 3 1 else .row p_17 c_17 (speeds_1.map encI_i64) 3 1) :: .row p_16 c_16 (depths_1.map encI_i64) 3 1 :: .row (some ⟨g_2, 0, none⟩) c_18 (x_8.map enc_gauge_Vertical) 61 5 :: .row p_6 c_6 (r_6.1.map enc_api_Span) 24 2 :: .box b_8 [.int .i64 r_5.1.Lo, .int .i64 r_5.1.Hi] 24 :: (bif E 19 then .box b_7 [.slice tries_p tries.length tries_c, .int .i64 r_12.2.1, .int .i64 r_12.2.2] 104 else bif E 8 then .box b_7 [.slice tries_p tries.length tries_c, .int .i64 r_11.2.1, .int .i64 r_11.2.2] 104 else .box b_7 [.slice tries_p tries.length tries_c, .int .i64 x_10, .int .i64 x_11] 104) :: .box b_5 [.int .i64 r_3.1.Left, .int .i64 r_3.1.Right, .slice (some ⟨g_2, 0, none⟩) x_8.length c_18] 48 :: Lf) w := hc
            have hf := he.h0
            replace hf := hf.more he 11 rfl (onP e0)
            replace hf := hf.more he 20 rfl (onP e9)
            refine stApm (xs := depths_1) (ys := ([r_11.1] : List Int)) hf hc rfl rfl sl_43 rfl rfl rfl rfl rfl one_encI_i64 (src_row hc m1) (fun _ _ => u4) (by simpa using room_spec hun_2) fun p_19 c_19 a w hf hc => ?_
            refine cNil ?_
            refine xThenN ?_
            intro ds u hau
            refine ⟨(setT θ 80 ⟨0, p_19, c_19⟩), he.put hi hau hf rfl [22] ⟨⟨e22, rfl⟩, trivial⟩ ⟨qq, qq, qq, qq, qq, qq, qq, qq, qq, qq, qq, qq, qq, qq, qq, qq, qq, qq, qq, qq, qq, qq, qq, qq, qq, qq, qq, qq, qq, qq, qq, qq, qq, trivial, qq, trivial⟩, ?_⟩
            show Ctx G ((bif E 20 then .row (some ⟨(θ 160).b, 0, none⟩) 1 (([r_12.1] : List Int).map encI_i64) 3 1 else .row none 0 [] 0 0) :: (bif E 9 then .row (some ⟨(θ 72).b, 0, none⟩) 1 (([r_11.1] : List Int).map encI_i64) 3 1 else .row none 0 [] 0 0) :: .box b_13 [.int .i64 e_5.At, .int .i64 e_5.Depth.Lo, .int .i64 e_5.Depth.Hi, .int .i64 e_5.Speed.Lo, .int .i64 e_5.Speed.Hi] 61 :: (bif E 21 then .row ((θ 168).p) ((θ 168).c) ((speeds_1 ++ [r_12.1]).map encI_i64) 3 1 else .row p_17 c_17 (speeds_1.map encI_i64) 3 1) :: (bif true then .row p_19 c_19 ((depths_1 ++ [r_11.1]).map encI_i64) 3 1 else .row p_16 c_16 (depths_1.map encI_i64) 3 1) :: .row (some ⟨g_2, 0, none⟩) c_18 (x_8.map enc_gauge_Vertical) 61 5 :: .row p_6 c_6 (r_6.1.map enc_api_Span) 24 2 :: .box b_8 [.int .i64 r_5.1.Lo, .int .i64 r_5.1.Hi] 24 :: (bif E 19 then .box b_7 [.slice tries_p tries.length tries_c, .int .i64 r_12.2.1, .int .i64 r_12.2.2] 104 else bif E 8 then .box b_7 [.slice tries_p tries.length tries_c, .int .i64 r_11.2.1, .int .i64 r_11.2.2] 104 else .box b_7 [.slice tries_p tries.length tries_c, .int .i64 x_10, .int .i64 x_11] 104) :: .box b_5 [.int .i64 r_3.1.Left, .int .i64 r_3.1.Right, .slice (some ⟨g_2, 0, none⟩) x_8.length c_18] 48 :: Lf) w
            rw [e9]
            exact hc
          · intro E θ a w hD hi hp he hc
            have e23 := hD.f 4 rfl hi
            have hf := he.h0
            replace hf := hf.more he 5 rfl (onN e23)
            refine stP hf rfl rfl rfl (pM rfl) fun a hf => ?_
            refine cNil ?_
            refine xThenN ?_
            intro ds u hau
            refine ⟨θ, he.put0 hi hau hf rfl 22 rfl rfl, ?_⟩
            exact hc
          · intro E θ a w hD hi hp he hc
            have hf := he.h0
            replace hf := hf.more he 1 rfl onT
            refine stP hf rfl rfl rfl (pM rfl) fun a hf => ?_
            refine cNil ?_
            refine xThenN ?_
            intro ds u hau
            refine ⟨θ, he.put0 hi hau hf rfl 23 rfl rfl, ?_⟩
            exact hc
          · intro E θ a w hD hi hp he hc
            have hf := he.h0
            replace hf := hf.more he 6 rfl onT
            refine stP hf rfl rfl rfl (pFA fa_61_2 rfl) fun a hf => ?_
            refine cNil ?_
            refine xThenN ?_
            intro ds u hau
            refine ⟨θ, he.put0 hi hau hf rfl 24 rfl rfl, ?_⟩
            exact hc
          · intro E θ a w hD hi hp he hc
            have e13 := hp.of (k := 13) rfl
            have hf := he.h0
            replace hf := hf.more he 24 rfl (onP e13)
            refine stP hf rfl rfl rfl (pFA fa_24_0 rfl) fun a hf => ?_
            refine cNil ?_
            refine xThenN ?_
            intro ds u hau
            refine ⟨θ, he.put0 hi hau hf rfl 25 rfl rfl, ?_⟩
            exact hc
          · intro E θ a w hD hi hp he hc
            have e14 := hp.of (k := 14) rfl
            have hf := he.h0
            replace hf := hf.more he 25 rfl (onP e14)
            refine stE hf hc rfl rfl rfl (eLd1 sc_3 rfl (cell_box m2 rfl)) fun a w hf hc => ?_
            refine cNil ?_
            refine xThenN ?_
            intro ds u hau
            refine ⟨θ, he.put0 hi hau hf rfl 26 rfl rfl, ?_⟩
            exact hc
          · intro E θ a w hD hi hp he hc
            have hf := he.h0
            replace hf := hf.more he 6 rfl onT
            refine stP hf rfl rfl rfl (pFA fa_61_2 rfl) fun a hf => ?_
            refine cNil ?_
            refine xThenN ?_
            intro ds u hau
            refine ⟨θ, he.put0 hi hau hf rfl 27 rfl rfl, ?_⟩
            exact hc
          · intro E θ a w hD hi hp he hc
            have e16 := hp.of (k := 16) rfl
            have hf := he.h0
            replace hf := hf.more he 27 rfl (onP e16)
            refine stP hf rfl rfl rfl (pFA fa_24_1 rfl) fun a hf => ?_
            refine cNil ?_
            refine xThenN ?_
            intro ds u hau
            refine ⟨θ, he.put0 hi hau hf rfl 28 rfl rfl, ?_⟩
            exact hc
          · intro E θ a w hD hi hp he hc
            have e17 := hp.of (k := 17) rfl
            have hf := he.h0
            replace hf := hf.more he 28 rfl (onP e17)
            refine stE hf hc rfl rfl rfl (eLd1 sc_3 rfl (cell_box m2 rfl)) fun a w hf hc => ?_
            refine cNil ?_
            refine xThenN ?_
            intro ds u hau
            refine ⟨θ, he.put0 hi hau hf rfl 29 rfl rfl, ?_⟩
            exact hc
          · intro E θ a w hD hi hp he hc
            have e12 := hp.of (k := 12) rfl
            have e15 := hp.of (k := 15) rfl
            have e18 := hp.of (k := 18) rfl
            have e10 := hp.of (k := 10) rfl
            have e8 := hD.t 0 rfl e10
            replace hc : Ctx G ((bif E 20 then .row (some ⟨(θ 160).b, 0, none⟩) 1 (([r_12.1] : List Int).map encI_i64) 3 1 else .row none 0 [] 0 0) :: (bif E 9 then .row (some ⟨(θ 72).b, 0, none⟩) 1 (([r_11.1] : List Int).map encI_i64) 3 1 else .row none 0 [] 0 0) :: .box b_13 [.int .i64 e_5.At, .int .i64 e_5.Depth.Lo, .int .i64 e_5.Depth.Hi, .int .i64 e_5.Speed.Lo, .int .i64 e_5.Speed.Hi] 61 :: (bif E 21 then .row ((θ 168).p) ((θ 168).c) ((speeds_1 ++ [r_12.1]).map encI_i64) 3 1 else .row p_17 c_17 (speeds_1.map encI_i64) 3 1) :: (bif E 10 then .row ((θ 80).p) ((θ 80).c) ((depths_1 ++ [r_11.1]).map encI_i64) 3 1 else .row p_16 c_16 (depths_1.map encI_i64) 3 1) :: .row (some ⟨g_2, 0, none⟩) c_18 (x_8.map enc_gauge_Vertical) 61 5 :: .row p_6 c_6 (r_6.1.map enc_api_Span) 24 2 :: .box b_8 [.int .i64 r_5.1.Lo, .int .i64 r_5.1.Hi] 24 :: (bif E 19 then .box b_7 [.slice tries_p tries.length tries_c, .int .i64 r_12.2.1, .int .i64 r_12.2.2] 104 else bif E 8 then .box b_7 [.slice tries_p tries.length tries_c, .int .i64 r_11.2.1, .int .i64 r_11.2.2] 104 else .box b_7 [.slice tries_p tries.length tries_c, .int .i64 x_10, .int .i64 x_11] 104) :: .box b_5 [.int .i64 r_3.1.Left, .int .i64 r_3.1.Right, .slice (some ⟨g_2, 0, none⟩) x_8.length c_18] 48 :: Lf) w := hc
            rw [e8, hi] at hc
            replace hc : Ctx G ((bif E 20 then .row (some ⟨(θ 160).b, 0, none⟩) 1 (([r_12.1] : List Int).map encI_i64) 3 1 else .row none 0 [] 0 0) :: (bif E 9 then .row (some ⟨(θ 72).b, 0, none⟩) 1 (([r_11.1] : List Int).map encI_i64) 3 1 else .row none 0 [] 0 0) :: .box b_13 [.int .i64 e_5.At, .int .i64 e_5.Depth.Lo, .int .i64 e_5.Depth.Hi, .int .i64 e_5.Speed.Lo, .int .i64 e_5.Speed.Hi] 61 :: (bif E 21 then .row ((θ 168).p) ((θ 168).c) ((speeds_1 ++ [r_12.1]).map encI_i64) 3 1 else .row p_17 c_17 (speeds_1.map encI_i64) 3 1) :: (bif E 10 then .row ((θ 80).p) ((θ 80).c) ((depths_1 ++ [r_11.1]).map encI_i64) 3 1 else .row p_16 c_16 (depths_1.map encI_i64) 3 1) :: .row (some ⟨g_2, 0, none⟩) c_18 (x_8.map enc_gauge_Vertical) 61 5 :: .row p_6 c_6 (r_6.1.map enc_api_Span) 24 2 :: .box b_8 [.int .i64 r_5.1.Lo, .int .i64 r_5.1.Hi] 24 :: .box b_7 [.slice tries_p tries.length tries_c, .int .i64 r_11.2.1, .int .i64 r_11.2.2] 104 :: .box b_5 [.int .i64 r_3.1.Left, .int .i64 r_3.1.Right, .slice (some ⟨g_2, 0, none⟩) x_8.length c_18] 48 :: Lf) w := hc
            have hf := he.h0
            replace hf := hf.more he 23 rfl (onP e12)
            replace hf := hf.more he 26 rfl (onP e15)
            replace hf := hf.more he 29 rfl (onP e18)
            refine stC (vs := [.pointer (some ⟨b_7, 0, none⟩), .int .i64 e_5.Speed.Lo, .int .i64 e_5.Speed.Hi]) (caps := []) hf rfl rfl rfl en_12 rfl rfl rfl rfl (kit_Stream_Within_ok (⟨tries, r_11.2.1, r_11.2.2⟩ : kit_Stream) e_5.Speed.Lo e_5.Speed.Hi h_tries (hc.pick k8) hr_12) ?_
            rintro _ w ⟨rfl, hc⟩
            refine ⟨_, rfl, fun a hf => ?_⟩
            refine cNil ?_
            refine xThenN ?_
            intro ds u hau
            replace hc := hc.pick k0
            replace hc := hc.pick k8
            replace hc := hc.pick k8
            replace hc := hc.pick k8
            replace hc := hc.pick k8
            replace hc := hc.pick k8
            replace hc := hc.pick k8
            replace hc := hc.pick k8
            replace hc := hc.pick k8
            refine ⟨θ, he.put0 hi hau hf rfl 30 rfl rfl, ?_⟩
            show Ctx G ((bif E 20 then .row (some ⟨(θ 160).b, 0, none⟩) 1 (([r_12.1] : List Int).map encI_i64) 3 1 else .row none 0 [] 0 0) :: (bif E 9 then .row (some ⟨(θ 72).b, 0, none⟩) 1 (([r_11.1] : List Int).map encI_i64) 3 1 else .row none 0 [] 0 0) :: .box b_13 [.int .i64 e_5.At, .int .i64 e_5.Depth.Lo, .int .i64 e_5.Depth.Hi, .int .i64 e_5.Speed.Lo, .int .i64 e_5.Speed.Hi] 61 :: (bif E 21 then .row ((θ 168).p) ((θ 168).c) ((speeds_1 ++ [r_12.1]).map encI_i64) 3 1 else .row p_17 c_17 (speeds_1.map encI_i64) 3 1) :: (bif E 10 then .row ((θ 80).p) ((θ 80).c) ((depths_1 ++ [r_11.1]).map encI_i64) 3 1 else .row p_16 c_16 (depths_1.map encI_i64) 3 1) :: .row (some ⟨g_2, 0, none⟩) c_18 (x_8.map enc_gauge_Vertical) 61 5 :: .row p_6 c_6 (r_6.1.map enc_api_Span) 24 2 :: .box b_8 [.int .i64 r_5.1.Lo, .int .i64 r_5.1.Hi] 24 :: (bif true then .box b_7 [.slice tries_p tries.length tries_c, .int .i64 r_12.2.1, .int .i64 r_12.2.2] 104 else bif E 8 then .box b_7 [.slice tries_p tries.length tries_c, .int .i64 r_11.2.1, .int .i64 r_11.2.2] 104 else .box b_7 [.slice tries_p tries.length tries_c, .int .i64 x_10, .int .i64 x_11] 104) :: .box b_5 [.int .i64 r_3.1.Left, .int .i64 r_3.1.Right, .slice (some ⟨g_2, 0, none⟩) x_8.length c_18] 48 :: Lf) w
            rw [e8]
            exact hc
          · intro E θ a w hD hi hp he hc
            have e19 := hp.of (k := 19) rfl
            replace hc : Ctx G ((bif E 20 then .row (some ⟨(θ 160).b, 0, none⟩) 1 (([r_12.1] : List Int).map encI_i64) 3 1 else .row none 0 [] 0 0) :: (bif E 9 then .row (some ⟨(θ 72).b, 0, none⟩) 1 (([r_11.1] : List Int).map encI_i64) 3 1 else .row none 0 [] 0 0) :: .box b_13 [.int .i64 e_5.At, .int .i64 e_5.Depth.Lo, .int .i64 e_5.Depth.Hi, .int .i64 e_5.Speed.Lo, .int .i64 e_5.Speed.Hi] 61 :: (bif E 21 then .row ((θ 168).p) ((θ 168).c) ((speeds_1 ++ [r_12.1]).map encI_i64) 3 1 else .row p_17 c_17 (speeds_1.map encI_i64) 3 1) :: (bif E 10 then .row ((θ 80).p) ((θ 80).c) ((depths_1 ++ [r_11.1]).map encI_i64) 3 1 else .row p_16 c_16 (depths_1.map encI_i64) 3 1) :: .row (some ⟨g_2, 0, none⟩) c_18 (x_8.map enc_gauge_Vertical) 61 5 :: .row p_6 c_6 (r_6.1.map enc_api_Span) 24 2 :: .box b_8 [.int .i64 r_5.1.Lo, .int .i64 r_5.1.Hi] 24 :: (bif E 19 then .box b_7 [.slice tries_p tries.length tries_c, .int .i64 r_12.2.1, .int .i64 r_12.2.2] 104 else bif E 8 then .box b_7 [.slice tries_p tries.length tries_c, .int .i64 r_11.2.1, .int .i64 r_11.2.2] 104 else .box b_7 [.slice tries_p tries.length tries_c, .int .i64 x_10, .int .i64 x_11] 104) :: .box b_5 [.int .i64 r_3.1.Left, .int .i64 r_3.1.Right, .slice (some ⟨g_2, 0, none⟩) x_8.length c_18] 48 :: Lf) w := hc
            rw [hi] at hc
            replace hc : Ctx G (.row none 0 [] 0 0 :: (bif E 9 then .row (some ⟨(θ 72).b, 0, none⟩) 1 (([r_11.1] : List Int).map encI_i64) 3 1 else .row none 0 [] 0 0) :: .box b_13 [.int .i64 e_5.At, .int .i64 e_5.Depth.Lo, .int .i64 e_5.Depth.Hi, .int .i64 e_5.Speed.Lo, .int .i64 e_5.Speed.Hi] 61 :: (bif E 21 then .row ((θ 168).p) ((θ 168).c) ((speeds_1 ++ [r_12.1]).map encI_i64) 3 1 else .row p_17 c_17 (speeds_1.map encI_i64) 3 1) :: (bif E 10 then .row ((θ 80).p) ((θ 80).c) ((depths_1 ++ [r_11.1]).map encI_i64) 3 1 else .row p_16 c_16 (depths_1.map encI_i64) 3 1) :: .row (some ⟨g_2, 0, none⟩) c_18 (x_8.map enc_gauge_Vertical) 61 5 :: .row p_6 c_6 (r_6.1.map enc_api_Span) 24 2 :: .box b_8 [.int .i64 r_5.1.Lo, .int .i64 r_5.1.Hi] 24 :: (bif E 19 then .box b_7 [.slice tries_p tries.length tries_c, .int .i64 r_12.2.1, .int .i64 r_12.2.2] 104 else bif E 8 then .box b_7 [.slice tries_p tries.length tries_c, .int .i64 r_11.2.1, .int .i64 r_11.2.2] 104 else .box b_7 [.slice tries_p tries.length tries_c, .int .i64 x_10, .int .i64 x_11] 104) :: .box b_5 [.int .i64 r_3.1.Left, .int .i64 r_3.1.Right, .slice (some ⟨g_2, 0, none⟩) x_8.length c_18] 48 :: Lf) w := hc
            have hf := he.h0
            replace hf := hf.more he 30 rfl (onP e19)
            refine stBS (rows := ([r_12.1] : List Int).map encI_i64) (vs := [(0, .int .i64 r_12.1)]) hf hc rfl rfl sl_43 rfl ⟨rfl, rfl, rfl, trivial⟩ rfl rfl fun b_15 a w hf hc => ?_
            refine cNil ?_
            refine xThenN ?_
            intro ds u hau
            replace hc := hc.drop k1
            refine ⟨(setT θ 160 ⟨b_15, none, 0⟩), he.put hi hau hf rfl [] trivial ⟨qq, qq, qq, qq, qq, qq, qq, qq, qq, qq, qq, qq, qq, qq, qq, qq, qq, qq, qq, qq, qq, qq, qq, qq, qq, qq, qq, qq, qq, qq, qq, qq, qq, qq, qq, trivial⟩, ?_⟩
            show Ctx G ((bif true then .row (some ⟨b_15, 0, none⟩) 1 (([r_12.1] : List Int).map encI_i64) 3 1 else .row none 0 [] 0 0) :: (bif E 9 then .row (some ⟨(θ 72).b, 0, none⟩) 1 (([r_11.1] : List Int).map encI_i64) 3 1 else .row none 0 [] 0 0) :: .box b_13 [.int .i64 e_5.At, .int .i64 e_5.Depth.Lo, .int .i64 e_5.Depth.Hi, .int .i64 e_5.Speed.Lo, .int .i64 e_5.Speed.Hi] 61 :: (bif E 21 then .row ((θ 168).p) ((θ 168).c) ((speeds_1 ++ [r_12.1]).map encI_i64) 3 1 else .row p_17 c_17 (speeds_1.map encI_i64) 3 1) :: (bif E 10 then .row ((θ 80).p) ((θ 80).c) ((depths_1 ++ [r_11.1]).map encI_i64) 3 1 else .row p_16 c_16 (depths_1.map encI_i64) 3 1) :: .row (some ⟨g_2, 0, none⟩) c_18 (x_8.map enc_gauge_Vertical) 61 5 :: .row p_6 c_6 (r_6.1.map enc_api_Span) 24 2 :: .box b_8 [.int .i64 r_5.1.Lo, .int .i64 r_5.1.Hi] 24 :: (bif E 19 then .box b_7 [.slice tries_p tries.length tries_c, .int .i64 r_12.2.1, .int .i64 r_12.2.2] 104 else bif E 8 then .box b_7 [.slice tries_p tries.length tries_c, .int .i64 r_11.2.1, .int .i64 r_11.2.2] 104 else .box b_7 [.slice tries_p tries.length tries_c, .int .i64 x_10, .int .i64 x_11] 104) :: .box b_5 [.int .i64 r_3.1.Left, .int .i64 r_3.1.Right, .slice (some ⟨g_2, 0, none⟩) x_8.length c_18] 48 :: Lf) w
            exact hc
          · intro E θ a w hD hi hp he hc
            have e11 := hp.of (k := 11) rfl
            have e20 := hp.of (k := 20) rfl
            have e23 := hD.f 5 rfl hi
            replace hc : Ctx G ((bif E 20 then .row (some ⟨(θ 160).b, 0, none⟩) 1 (([r_12.1] : List Int).map encI_i64) 3 1 else .row none 0 [] 0 0) :: (bif E 9 then .row (some ⟨(θ 72).b, 0, none⟩) 1 (([r_11.1] : List Int).map encI_i64) 3 1 else .row none 0 [] 0 0) :: .box b_13 [.int .i64 e_5.At, .int .i64 e_5.Depth.Lo, .int .i64 e_5.Depth.Hi, .int .i64 e_5.Speed.Lo, .int .i64 e_5.Speed.Hi] 61 :: (bif E 21 then .row ((θ 168).p) ((θ 168).c) ((speeds_1 ++ [r_12.1]).map encI_i64) 3 1 else .row p_17 c_17 (speeds_1.map encI_i64) 3 1) :: (bif E 10 then .row ((θ 80).p) ((θ 80).c) ((depths_1 ++ [r_11.1]).map encI_i64) 3 1 else .row p_16 c_16 (depths_1.map encI_i64) 3 1) :: .row (some ⟨g_2, 0, none⟩) c_18 (x_8.map enc_gauge_Vertical) 61 5 :: .row p_6 c_6 (r_6.1.map enc_api_Span) 24 2 :: .box b_8 [.int .i64 r_5.1.Lo, .int .i64 r_5.1.Hi] 24 :: (bif E 19 then .box b_7 [.slice tries_p tries.length tries_c, .int .i64 r_12.2.1, .int .i64 r_12.2.2] 104 else bif E 8 then .box b_7 [.slice tries_p tries.length tries_c, .int .i64 r_11.2.1, .int .i64 r_11.2.2] 104 else .box b_7 [.slice tries_p tries.length tries_c, .int .i64 x_10, .int .i64 x_11] 104) :: .box b_5 [.int .i64 r_3.1.Left, .int .i64 r_3.1.Right, .slice (some ⟨g_2, 0, none⟩) x_8.length c_18] 48 :: Lf) w := hc
            rw [e20, hi] at hc
            replace hc : Ctx G (.row (some ⟨(θ 160).b, 0, none⟩) 1 (([r_12.1] : List Int).map encI_i64) 3 1 :: (bif E 9 then .row (some ⟨(θ 72).b, 0, none⟩) 1 (([r_11.1] : List Int).map encI_i64) 3 1 else .row none 0 [] 0 0) :: .box b_13 [.int .i64 e_5.At, .int .i64 e_5.Depth.Lo, .int .i64 e_5.Depth.Hi, .int .i64 e_5.Speed.Lo, .int .i64 e_5.Speed.Hi] 61 :: .row p_17 c_17 (speeds_1.map encI_i64) 3 1 :: (bif E 10 then .row ((θ 80).p) ((θ 80).c) ((depths_1 ++ [r_11.1]).map encI_i64) 3 1 else .row p_16 c_16 (depths_1.map encI_i64) 3 1) :: .row (some ⟨g_2, 0, none⟩) c_18 (x_8.map enc_gauge_Vertical) 61 5 :: .row p_6 c_6 (r_6.1.map enc_api_Span) 24 2 :: .box b_8 [.int .i64 r_5.1.Lo, .int .i64 r_5.1.Hi] 24 :: (bif E 19 then .box b_7 [.slice tries_p tries.length tries_c, .int .i64 r_12.2.1, .int .i64 r_12.2.2] 104 else bif E 8 then .box b_7 [.slice tries_p tries.length tries_c, .int .i64 r_11.2.1, .int .i64 r_11.2.2] 104 else .box b_7 [.slice tries_p tries.length tries_c, .int .i64 x_10, .int .i64 x_11] 104) :: .box b_5 [.int .i64 r_3.1.Left, .int .i64 r_3.1.Right, .slice (some ⟨g_2, 0, none⟩) x_8.length c_18] 48 :: Lf) w := hc
            have hf := he.h0
            replace hf := hf.more he 22 rfl (onP e11)
            replace hf := hf.more he 31 rfl (onP e20)
            refine stApm (xs := speeds_1) (ys := ([r_12.1] : List Int)) hf hc rfl rfl sl_43 rfl rfl rfl rfl rfl one_encI_i64 (src_row hc m0) (fun _ _ => u3) (by simpa using room_spec hun_3) fun p_20 c_20 a w hf hc => ?_
            refine cNil ?_
            refine xThenN ?_
            intro ds u hau
            refine ⟨(setT θ 168 ⟨0, p_20, c_20⟩), he.put hi hau hf rfl [23] ⟨⟨e23, rfl⟩, trivial⟩ ⟨qq, qq, qq, qq, qq, qq, qq, qq, qq, qq, qq, qq, qq, qq, qq, qq, qq, qq, qq, qq, qq, qq, qq, qq, qq, qq, qq, qq, qq, qq, qq, qq, qq, qq, trivial, trivial⟩, ?_⟩
            show Ctx G ((bif E 20 then .row (some ⟨(θ 160).b, 0, none⟩) 1 (([r_12.1] : List Int).map encI_i64) 3 1 else .row none 0 [] 0 0) :: (bif E 9 then .row (some ⟨(θ 72).b, 0, none⟩) 1 (([r_11.1] : List Int).map encI_i64) 3 1 else .row none 0 [] 0 0) :: .box b_13 [.int .i64 e_5.At, .int .i64 e_5.Depth.Lo, .int .i64 e_5.Depth.Hi, .int .i64 e_5.Speed.Lo, .int .i64 e_5.Speed.Hi] 61 :: (bif true then .row p_20 c_20 ((speeds_1 ++ [r_12.1]).map encI_i64) 3 1 else .row p_17 c_17 (speeds_1.map encI_i64) 3 1) :: (bif E 10 then .row ((θ 80).p) ((θ 80).c) ((depths_1 ++ [r_11.1]).map encI_i64) 3 1 else .row p_16 c_16 (depths_1.map encI_i64) 3 1) :: .row (some ⟨g_2, 0, none⟩) c_18 (x_8.map enc_gauge_Vertical) 61 5 :: .row p_6 c_6 (r_6.1.map enc_api_Span) 24 2 :: .box b_8 [.int .i64 r_5.1.Lo, .int .i64 r_5.1.Hi] 24 :: (bif E 19 then .box b_7 [.slice tries_p tries.length tries_c, .int .i64 r_12.2.1, .int .i64 r_12.2.2] 104 else bif E 8 then .box b_7 [.slice tries_p tries.length tries_c, .int .i64 r_11.2.1, .int .i64 r_11.2.2] 104 else .box b_7 [.slice tries_p tries.length tries_c, .int .i64 x_10, .int .i64 x_11] 104) :: .box b_5 [.int .i64 r_3.1.Left, .int .i64 r_3.1.Right, .slice (some ⟨g_2, 0, none⟩) x_8.length c_18] 48 :: Lf) w
            rw [e20]
            exact hc
          · intro E θ a w hD hi hp he hc
            have e10 := hp.of (k := 10) rfl
            have hf := he.h0
            replace hf := hf.more he 21 rfl (onP e10)
            refine stP hf rfl rfl rfl (pA rfl) fun a hf => ?_
            refine cNil ?_
            refine xThenN ?_
            intro ds u hau
            refine ⟨θ, he.put0 hi hau hf rfl 33 rfl rfl, ?_⟩
            exact hc
          · intro E θ a w hD hi hp he hc
            have e21 := hp.of (k := 21) rfl
            have hf := he.h0
            replace hf := hf.more he 32 rfl (onP e21)
            refine stP hf rfl rfl rfl (pA rfl) fun a hf => ?_
            refine cNil ?_
            refine xThenN ?_
            intro ds u hau
            refine ⟨θ, he.put0 hi hau hf rfl 34 rfl rfl, ?_⟩
            exact hc
          · intro E θ a w hall he hc
            have hf := he.h0
            have e8 := hall 8 rfl
            have e9 := hall 9 rfl
            have e10 := hall 10 rfl
            have e19 := hall 19 rfl
            have e20 := hall 20 rfl
            have e21 := hall 21 rfl
            have e22 := hall 22 rfl
            have e23 := hall 23 rfl
            replace hf := hf.more he 34 rfl (onP e23)
            replace hf := hf.more he 33 rfl (onP e22)
            replace hf := hf.more he 10 rfl (onT)
            replace hf := hf.more he 9 rfl (onT)
            replace hf := hf.more he 8 rfl (onT)
            replace hf := hf.more he 7 rfl (onT)
            replace hf := hf.more he 3 rfl (onT)
            replace hf := hf.more he 2 rfl (onT)
            replace hf := hf.more he 1 rfl (onT)
            replace hf := hf.more he 0 rfl (onT)
            replace hc : Ctx G ((bif E 20 then .row (some ⟨(θ 160).b, 0, none⟩) 1 (([r_12.1] : List Int).map encI_i64) 3 1 else .row none 0 [] 0 0) :: (bif E 9 then .row (some ⟨(θ 72).b, 0, none⟩) 1 (([r_11.1] : List Int).map encI_i64) 3 1 else .row none 0 [] 0 0) :: .box b_13 [.int .i64 e_5.At, .int .i64 e_5.Depth.Lo, .int .i64 e_5.Depth.Hi, .int .i64 e_5.Speed.Lo, .int .i64 e_5.Speed.Hi] 61 :: (bif E 21 then .row ((θ 168).p) ((θ 168).c) ((speeds_1 ++ [r_12.1]).map encI_i64) 3 1 else .row p_17 c_17 (speeds_1.map encI_i64) 3 1) :: (bif E 10 then .row ((θ 80).p) ((θ 80).c) ((depths_1 ++ [r_11.1]).map encI_i64) 3 1 else .row p_16 c_16 (depths_1.map encI_i64) 3 1) :: .row (some ⟨g_2, 0, none⟩) c_18 (x_8.map enc_gauge_Vertical) 61 5 :: .row p_6 c_6 (r_6.1.map enc_api_Span) 24 2 :: .box b_8 [.int .i64 r_5.1.Lo, .int .i64 r_5.1.Hi] 24 :: (bif E 19 then .box b_7 [.slice tries_p tries.length tries_c, .int .i64 r_12.2.1, .int .i64 r_12.2.2] 104 else bif E 8 then .box b_7 [.slice tries_p tries.length tries_c, .int .i64 r_11.2.1, .int .i64 r_11.2.2] 104 else .box b_7 [.slice tries_p tries.length tries_c, .int .i64 x_10, .int .i64 x_11] 104) :: .box b_5 [.int .i64 r_3.1.Left, .int .i64 r_3.1.Right, .slice (some ⟨g_2, 0, none⟩) x_8.length c_18] 48 :: Lf) w := hc
            rw [e8, e9, e10, e19, e20, e21] at hc
            exact ⟨(θ 80).p, (θ 80).c, (θ 168).p, (θ 168).c, (θ 160).b, (θ 72).b, hf.keep ⟨rfl, rfl, rfl, rfl, rfl, rfl, rfl, rfl, rfl, rfl, trivial⟩, hc⟩
          rintro a w ⟨p_21, c_21, p_22, c_22, b_16, b_17, hf, hc⟩
          refine h59 _ _ ?_
          refine cReg ?_
          refine stP hf rfl rfl rfl (pAdd rfl rfl) fun a hf => ?_
          refine stP hf rfl rfl rfl (pM rfl) fun a hf => ?_
          refine cNil ?_
          replace hc := hc.drop k2
          replace hc := hc.drop k1
          replace hc := hc.drop k0
          exact hK53 ((depths_1 ++ [r_11.1]), (speeds_1 ++ [r_12.1]), x_8, W (x_9 + 1), r_12.2.1, r_12.2.2) _ _ (Option.some.inj hF).symm ⟨p_21, c_21, p_22, c_22, (some ⟨g_2, 0, none⟩), c_18, hf.keep ⟨rfl, rfl, rfl, rfl, rfl, rfl, rfl, rfl, rfl, rfl, trivial⟩, hc⟩
        · replace hF := condF hb hF
          clear hb
          refine wp_exit ?_
          refine xThen ?_
          refine xThen ?_
          have he := Option.some.inj hF
          rw [← he] at hfin53
          refine cHit ?_
          exact hr53 _ _ _ hfin53 ⟨p_16, c_16, p_17, c_17, p_18, c_18, hf.keep ⟨rfl, rfl, rfl, rfl, rfl, rfl, rfl, rfl, rfl, rfl, trivial⟩, hc⟩
      · replace hF := condF hb hF
        clear hb
        refine wp_exit ?_
        refine xThen ?_
        refine xThen ?_
        have he := Option.some.inj hF
        rw [← he] at hfin16
        refine cHit ?_
        exact hr16 _ _ _ hfin16 ⟨p_7, c_7, hf.keep ⟨rfl, rfl, rfl, rfl, rfl, trivial⟩, hc⟩

end Go.Nilo
