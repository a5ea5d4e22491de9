/-
 What functions of the Go text compute, as plain functions, and that they do, part 3 of 3. Conditions: what each theorem names.
-/
import Derived.Test.YtbgjmnbgilddgaaPn2
import Derived.Test.YtbgjmnbgilddgaaProg
set_option linter.unusedVariables false
set_option linter.unusedSimpArgs false
set_option maxRecDepth 100000
set_option maxHeartbeats 4000000
namespace Go.Nilo
open Go.Proofs


def ref03_Plan_j25 (N : Nat) (a_1 : Int) (best_2 : List ref03_route) : Option (Step ((List ref03_route) × Int) (Step ((List ref03_route) × Int) ((List Int) × Int × Int))) :=
 some (.cont (best_2,W (a_1 + 1)))
def ref03_Plan_j29 (N : Nat) (b_3 : Int) (best_1 : List ref03_route) (a_1 : Int) (e_6 : ref03_route) (e_7 : ref03_Point) (x : List Int) : Option (Step ((List ref03_route) × Int) (Step ((List ref03_route) × Int) ((List Int) × Int × Int))) :=
 Option.bind (getI best_1 b_3) fun e_9 =>
 Option.bind (ref03_better N (⟨true,W (e_6.cost + e_7.Cost),x⟩ : ref03_route) e_9) fun r_3 =>
 cond r_3
 (Option.bind (getI best_1 b_3) fun e_10 =>
 ref03_Plan_j25 N a_1 (best_1.set b_3.toNat (⟨true,W (e_6.cost + e_7.Cost),x⟩ : ref03_route)))
 (ref03_Plan_j25 N a_1 best_1)
def ref03_Plan_b22 (N : Nat) (s_ : ref03_Site) (r_1 : (List ref03_Point)) (b_3 : Int) (best_1 : List ref03_route) (a_1 : Int) : Option (Step ((List ref03_route) × Int) (Step ((List ref03_route) × Int) ((List Int) × Int × Int))) :=
 cond (decide (a_1 < b_3))
 (Option.bind (getI best_1 a_1) fun e_3 =>
 Option.bind (cond (!e_3.there) (some true) (Option.bind (getI r_1 a_1) fun e_4 =>
 Option.bind (getI r_1 b_3) fun e_5 =>
 Option.bind (ref03_goes N s_ e_4 e_5) fun r_2 =>
 some (!r_2))) fun t_1 =>
 cond t_1
 (ref03_Plan_j25 N a_1 best_1)
 (Option.bind (getI best_1 a_1) fun e_6 =>
 Option.bind (getI r_1 b_3) fun e_7 =>
 Option.bind (getI best_1 a_1) fun e_8 =>
 Option.bind (room (e_8.plan).length) fun un_1 =>
 cond (decide (b_3 < (W (((r_1.length : Nat) : Int) - 1))))
 (Option.bind (room ((e_8.plan ++ [b_3])).length) fun un_2 =>
 ref03_Plan_j29 N b_3 best_1 a_1 e_6 e_7 (e_8.plan ++ [b_3]))
 (ref03_Plan_j29 N b_3 best_1 a_1 e_6 e_7 e_8.plan)))
 (some (.brk (best_1,a_1)))
def ref03_Plan_b11 (N : Nat) (s_ : ref03_Site) (r_1 : (List ref03_Point)) (best : List ref03_route) (b_3 : Int) : Option (Step ((List ref03_route) × Int) ((List Int) × Int × Int)) :=
 cond (decide (b_3 < ((r_1.length : Nat) : Int)))
 (Option.bind (loopO (fun s22 => ref03_Plan_b22 N s_ r_1 b_3 s22.1 s22.2) N (best,0)) fun x22 =>
 exK x22 (fun s22 => some (.cont (s22.1,W (b_3 + 1)))) some)
 (some (.brk (best,b_3)))
def ref03_Plan (N : Nat) (s_ : ref03_Site) : Option ((List Int) × Int × Int) :=
 Option.bind (ref03_CheckSite N s_) fun r =>
 cond (r != 0)
 (some (([] : List Int),0,r))
 (Option.bind (ref03_stations N s_) fun r_1 =>
 Option.bind (inM ((r_1.length : Nat) : Int)) fun un =>
 Option.bind (getI (List.replicate ((r_1.length : Nat) : Int).toNat (⟨false,0,[]⟩ : ref03_route)) 0) fun e_1 =>
 Option.bind (loopO (fun s11 => ref03_Plan_b11 N s_ r_1 s11.1 s11.2) N (((List.replicate ((r_1.length : Nat) : Int).toNat (⟨false,0,[]⟩ : ref03_route)).set (0 : Int).toNat (⟨true,e_1.cost,e_1.plan⟩ : ref03_route)),1)) fun x11 =>
 exK x11 (fun s11 => Option.bind (getI s11.1 (W (((r_1.length : Nat) : Int) - 1))) fun e_2 =>
 cond (!e_2.there)
 (some (([] : List Int),0,5))
 (some (e_2.plan,e_2.cost,0))) some)
theorem ref03_Plan_ok {N : Nat} {G : Pers} {Lf : List Ent} {w : World} (s_ : ref03_Site) {s__Points_p : Option Addr} {s__Points_c : Nat} (h_s__Points : Rd G 3 s__Points_p s__Points_c (s_.Points.map enc_ref03_Point)) (hc : Ctx G (Lf) w) {res : (List Int) × Int × Int} (hF : ref03_Plan N s_ = some res) : Calls Try.prog 40 #[.agg #[i6 s_.Left,i6 s_.Right,i6 s_.Gap,i6 s_.Step_,.slice s__Points_p s_.Points.length s__Points_c]] w (fun e w => ∃ (p'1 : Option Addr) (c'1 : Nat),e = .returned (.tuple #[.slice p'1 res.1.length c'1,i6 res.2.1,i6 res.2.2]) ∧ Ctx G (.row p'1 c'1 (res.1.map encI_i64) 3 1::Lf) w) := by
 unfold ref03_Plan at hF
 refine fnIn Try.func40 rfl Try.ntmps40 rfl fun a hf => zS fun K h => zB hf hc rfl fun b_1 a w hf hc => sp 3 hf rfl fun a hf => zT h ?_
 refine wp_seq_k fun K2 h2 => zS fun K h => zN hf hc ag_85 m0 rfl fun a w hf hc => ?_
 obtain ⟨r,hr,hF⟩ := bnd_some hF
 refine zQ (v := i6 r) hf hc en_36 rfl (fun w hc => ref03_CheckSite_ok s_ h_s__Points hc hr) fun a w hf hc => sp 1 hf rfl fun a hf => zT h ?_
 refine zS fun K h => sp 2 hf rfl fun a hf => zT h ?_
 refine zI hf rfl hF ?_ ?_ <;> clear hF <;> intro hF
 ·refine zS fun K h => sp 4 hf rfl fun a hf => zT h ?_
  refine wp_ret ?_
  refine xThenR ?_
  obtain rfl := sj hF
  replace hc := hc.nilRow 3 1
  replace hc := hc.drop k1
  exact zO3 Try.results40 hf rfl rfl rfl ⟨none,0,rfl,hc⟩
 ·refine wp_skip ?_
  refine h2 _ _ ?_
  refine zS fun K h => zN hf hc ag_85 m0 rfl fun a w hf hc => ?_
  obtain ⟨r_1,hr_1,hF⟩ := bnd_some hF
  refine zC hf en_85 rfl (ref03_stations_ok s_ h_s__Points hc hr_1) ?_
  rintro _ w ⟨p_1,c_1,rfl,hc⟩
  refine ⟨_,rfl,fun a hf => ?_⟩
  refine sp 1 hf rfl fun a hf => zT h ?_
  refine zS fun K h => sp 1 hf rfl fun a hf => zP hf rfl (pLenS Try.underlying83 rfl) fun a hf => ?_
  obtain ⟨un,hun,hF⟩ := bnd_some hF
  refine stMk (m := (List.replicate ((r_1.length : Nat) : Int).toNat (⟨false,0,[]⟩ : ref03_route)).length) (rows := (List.replicate ((r_1.length : Nat) : Int).toNat (((none,0),(⟨false,0,[]⟩ : ref03_route)) : H2 × ref03_route)).map (Kd.v kd_151)) hf hc rfl rfl sl_149 rfl rfl (inM_spec hun) rfl rfl (by simp [List.map_replicate,Value.cells,Kd.v,kM,kL,Kd.comp]) (by simp) fun b_2 a w hf hc => ?_
  obtain ⟨hsq,hc⟩ := tab_make (K := kd_151) (x := (⟨false,0,[]⟩ : ref03_route)) (fun _ h => h.nilRow _ _) _ hc
  replace hc : Ctx G (.row (some ⟨b_2,0,none⟩) (((r_1.length : Nat) : Int).toNat) ((tabR hsq (List.replicate ((r_1.length : Nat) : Int).toNat (⟨false,0,[]⟩ : ref03_route))).map (Kd.v kd_151)) 151 3::tabI kd_151 (tabR hsq (List.replicate ((r_1.length : Nat) : Int).toNat (⟨false,0,[]⟩ : ref03_route)))::.row p_1 c_1 (r_1.map enc_ref03_Point) 143 3::.box b_1 [i6 s_.Left,i6 s_.Right,i6 s_.Gap,i6 s_.Step_,.slice s__Points_p s_.Points.length s__Points_c] 85::Lf) w := hc
  refine sp 1 hf rfl fun a hf => zT h ?_
  refine zS fun K h => sp 1 hf rfl fun a hf => ?_
  obtain ⟨e_1,he_1,hF⟩ := bnd_some hF
  obtain ⟨qa,qr⟩ := row_atk hc m0 (tabR_getI he_1)
  refine zP hf rfl (pIA Try.underlying149 sz_151 rfl rfl (At.len qa (by simp only [tabR_len,List.length_set]))) fun a hf => zP hf rfl (pFA fa_151_0 rfl) fun a hf => stRw (vs := [.bool true]) (o' := 0) (z := ((hsq (0 : Int).toNat),(⟨true,e_1.cost,e_1.plan⟩ : ref03_route))) (xs := (tabR hsq (List.replicate ((r_1.length : Nat) : Int).toNat (⟨false,0,[]⟩ : ref03_route)))) hf hc rfl rfl rfl rfl sz_4 rfl (fun x => (one_kd_151 x).1) (getI_lt (tabR_getI he_1)) (fun e' he' => by obtain rfl := sj ((tabR_get (hs := hsq) (getI_spec he_1).2).symm.trans he'); rfl) rfl u0 fun w hc => ?_
  replace hc := tab_part (K := kd_151) (hs := hsq) (y := (⟨true,e_1.cost,e_1.plan⟩ : ref03_route)) he_1 rfl hc
  replace hc : Ctx G (.row (some ⟨b_2,0,none⟩) (((r_1.length : Nat) : Int).toNat) ((tabR hsq ((List.replicate ((r_1.length : Nat) : Int).toNat (⟨false,0,[]⟩ : ref03_route)).set (0 : Int).toNat (⟨true,e_1.cost,e_1.plan⟩ : ref03_route))).map (Kd.v kd_151)) 151 3::tabI kd_151 (tabR hsq ((List.replicate ((r_1.length : Nat) : Int).toNat (⟨false,0,[]⟩ : ref03_route)).set (0 : Int).toNat (⟨true,e_1.cost,e_1.plan⟩ : ref03_route)))::.row p_1 c_1 (r_1.map enc_ref03_Point) 143 3::.box b_1 [i6 s_.Left,i6 s_.Right,i6 s_.Gap,i6 s_.Step_,.slice s__Points_p s_.Points.length s__Points_c] 85::Lf) w := hc
  refine zT h ?_
  refine wp_seq_k fun K9 h9 => zS fun K h => sp 1 hf rfl fun a hf => zT h ?_
  refine wp_block ?_
  obtain ⟨x11,hx11,hF⟩ := bnd_some hF
  let S11 : ((List ref03_route) × Int) → Act → World → Prop := (fun (zz : (List ref03_route) × Int) a w => ∃ (p_2 : Option Addr) (c_2 : Nat) (p_3 : Option Addr) (tcq : TabH),Has 108 a [(1,pq b_1),(6,.slice p_2 r_1.length c_2),(7,.slice p_3 zz.1.length tcq.1),(8,i6 zz.2)] ∧ Ctx G (.row p_3 tcq.1 ((tabR tcq.2 zz.1).map (Kd.v kd_151)) 151 3::tabI kd_151 (tabR tcq.2 zz.1)::.row p_2 c_2 (r_1.map enc_ref03_Point) 143 3::.box b_1 [i6 s_.Left,i6 s_.Right,i6 s_.Gap,i6 s_.Step_,.slice s__Points_p s_.Points.length s__Points_c] 85::Lf) w)
  have hr11 : ∀ (zz : (List ref03_route) × Int) a w,x11 = .go zz → S11 zz a w → K9 a w := by
   rintro ⟨best,b_3⟩ a w rfl ⟨p_2,c_2,p_3,tcq,hf,hc⟩
   replace hF := exK_go hF
   refine h9 _ _ ?_
   refine zS fun K h => sp 2 hf rfl fun a hf => zP hf rfl (pLenS Try.underlying83 rfl) fun a hf => sp 1 hf rfl fun a hf => ?_
   obtain ⟨e_2,he_2,hF⟩ := bnd_some hF
   obtain ⟨g,rfl,qa_1,qr_1⟩ := row_atm hc m0 (tabR_getI he_2)
   refine zP hf rfl (pIA Try.underlying149 sz_151 rfl rfl (At.len qa_1 (by simp only [tabR_len,List.length_set]))) fun a hf => zE hf hc rfl (eLdN (vs := [.bool e_2.there,i6 e_2.cost,.slice ((tcq.2 (W (((r_1.length : Nat) : Int) - 1)).toNat).1) e_2.plan.length ((tcq.2 (W (((r_1.length : Nat) : Int) - 1)).toNat).2)]) ag_151 rfl rfl (cells_rw (sz := 3) (i := (W (((r_1.length : Nat) : Int) - 1)).toNat) m0 qr_1 (n := 3) (o' := 0) rfl)) fun a w hf hc => zA hf hc zr_151 rfl fun b_4 a w hf hc => zW hf hc sz_151 u0 rfl fun w hc => zT h ?_
   refine wp_seq_k fun K13 h13 => zS fun K h => zP hf rfl (pFA fa_151_0 rfl) fun a hf => zL hf hc sc_4 m0 rfl fun a w hf hc => sp 1 hf rfl fun a hf => zT h ?_
   refine zI hf rfl hF ?_ ?_ <;> clear hF <;> intro hF
   ·refine zS fun K h => sp 3 hf rfl fun a hf => zT h ?_
    refine wp_ret ?_
    refine xThenR ?_
    obtain rfl := sj hF
    replace hc := hc.nilRow 3 1
    replace hc := ((((hc.drop k5).drop k4).drop k3).drop k2).drop k1
    exact zO3 Try.results40 hf rfl rfl rfl ⟨none,0,rfl,hc⟩
   ·refine wp_skip ?_
    refine h13 _ _ ?_
    refine wp_seq_k fun K16 h16 => cQ hc follows_mx (by kernel_rfl) ?_
    refine qE hf rfl rfl rfl (Pu.ev (pFA fa_151_2 rfl)) fun a hf => qE hf rfl rfl rfl (eLd1 sc_43 rfl (cell_box m0 rfl)) fun a hf => qE hf rfl rfl rfl (Pu.ev (pFA fa_151_1 rfl)) fun a hf => qE hf rfl rfl rfl (eLd1 sc_3 rfl (cell_box m0 rfl)) fun a hf => qE hf rfl rfl rfl (Pu.ev (pA rfl)) fun a hf => qE hf rfl rfl rfl (Pu.ev (pA rfl)) fun a hf => qE hf rfl rfl rfl (Pu.ev (pA rfl)) fun a hf => ?_
    intro w hc
    refine h16 _ _ ?_
    refine wp_ret ?_
    obtain rfl := sj hF
    replace hc := tab_out (hc.pick k2) he_2
    replace hc : Ctx G (.row ((tcq.2 (W (((r_1.length : Nat) : Int) - 1)).toNat).1) ((tcq.2 (W (((r_1.length : Nat) : Int) - 1)).toNat).2) (e_2.plan.map encI_i64) 3 1::tabI kd_151 ((tabR tcq.2 best).eraseIdx (W (((r_1.length : Nat) : Int) - 1)).toNat)::.box b_4 [.bool e_2.there,i6 e_2.cost,.slice ((tcq.2 (W (((r_1.length : Nat) : Int) - 1)).toNat).1) e_2.plan.length ((tcq.2 (W (((r_1.length : Nat) : Int) - 1)).toNat).2)] 151::.row (some ⟨g,0,none⟩) tcq.1 ((tabR tcq.2 best).map (Kd.v kd_151)) 151 3::.row p_2 c_2 (r_1.map enc_ref03_Point) 143 3::.box b_1 [i6 s_.Left,i6 s_.Right,i6 s_.Gap,i6 s_.Step_,.slice s__Points_p s_.Points.length s__Points_c] 85::Lf) w := hc
    replace hc := ((((hc.drop k5).drop k4).drop k3).drop k2).drop k1
    exact zO3 Try.results40 hf rfl rfl rfl ⟨(tcq.2 (W (((r_1.length : Nat) : Int) - 1)).toNat).1,(tcq.2 (W (((r_1.length : Nat) : Int) - 1)).toNat).2,rfl,hc⟩
  have ho11 : ∀ r,x11 = .out r → r = res := by
   rintro r rfl
   exact sj hF
  replace hf := hf.castAt 7 (v' := .slice (some ⟨b_2,0,none⟩) (((List.replicate ((r_1.length : Nat) : Int).toNat (⟨false,0,[]⟩ : ref03_route)).set (0 : Int).toNat (⟨true,e_1.cost,e_1.plan⟩ : ref03_route)).length) (((r_1.length : Nat) : Int).toNat)) rfl (congrArg (fun k => Value.slice (some ⟨b_2,0,none⟩) k (((r_1.length : Nat) : Int).toNat)) (by simp))
  refine cLoop N (loopW (S := S11) (x := x11) ?_ N (((List.replicate ((r_1.length : Nat) : Int).toNat (⟨false,0,[]⟩ : ref03_route)).set (0 : Int).toNat (⟨true,e_1.cost,e_1.plan⟩ : ref03_route)),1) _ _ ⟨p_1,c_1,(some ⟨b_2,0,none⟩),(((r_1.length : Nat) : Int).toNat,hsq),hf.kp rfl,hc⟩ hx11)
  clear hF hf hc
  rintro ⟨best,b_3⟩ st11 a w KB11 ⟨p_2,c_2,p_3,tcq,hf,hc⟩ hF hfin11 hK11
  unfold ref03_Plan_b11 at hF
  refine wp_seq_k fun K17 h17 => zS fun K h => sp 2 hf rfl fun a hf => zP hf rfl (pLenS Try.underlying83 rfl) fun a hf => sp 1 hf rfl fun a hf => zT h ?_
  refine zI hf rfl hF ?_ ?_ <;> clear hF <;> intro hF
  ·refine wp_skip ?_
   refine h17 _ _ ?_
   refine wp_seq_k fun K19 h19 => wp_block ?_
   refine zS fun K h => sp 1 hf rfl fun a hf => zT h ?_
   refine wp_thenK fun K21 h21 => wp_block ?_
   obtain ⟨x22,hx22,hF⟩ := bnd_some hF
   let S22 : ((List ref03_route) × Int) → Act → World → Prop := (fun (zz : (List ref03_route) × Int) a w => ∃ (p_4 : Option Addr) (c_3 : Nat) (p_5 : Option Addr) (tcq_1 : TabH),Has 108 a [(1,pq b_1),(6,.slice p_4 r_1.length c_3),(7,.slice p_5 zz.1.length tcq_1.1),(8,i6 b_3),(9,i6 zz.2)] ∧ Ctx G (.row p_5 tcq_1.1 ((tabR tcq_1.2 zz.1).map (Kd.v kd_151)) 151 3::tabI kd_151 (tabR tcq_1.2 zz.1)::.row p_4 c_3 (r_1.map enc_ref03_Point) 143 3::.box b_1 [i6 s_.Left,i6 s_.Right,i6 s_.Gap,i6 s_.Step_,.slice s__Points_p s_.Points.length s__Points_c] 85::Lf) w)
   have hr22 : ∀ (zz : (List ref03_route) × Int) a w,x22 = .go zz → S22 zz a w → K21 a w := by
    rintro ⟨best_1,a_1⟩ a w rfl ⟨p_4,c_3,p_5,tcq_1,hf,hc⟩
    replace hF := exK_go hF
    refine h21 _ _ ?_
    refine h19 _ _ ?_
    refine cReg ?_
    refine sp 3 hf rfl fun a hf => cNil ?_
    exact hK11 (best_1,W (b_3 + 1)) _ _ (sj hF).symm ⟨p_4,c_3,p_5,tcq_1,hf.kp rfl,hc⟩
   have ho22 : ∀ r,x22 = .out r → r = st11 := by
    rintro r rfl
    exact sj hF
   refine cLoop N (loopW (S := S22) (x := x22) ?_ N (best,0) _ _ ⟨p_2,c_2,p_3,tcq,hf.kp rfl,hc⟩ hx22)
   clear hF hf hc
   rintro ⟨best_1,a_1⟩ st22 a w KB22 ⟨p_4,c_3,p_5,tcq_1,hf,hc⟩ hF hfin22 hK22
   unfold ref03_Plan_b22 at hF
   refine wp_seq_k fun K23 h23 => zS fun K h => sp 3 hf rfl fun a hf => zT h ?_
   refine zI hf rfl hF ?_ ?_ <;> clear hF <;> intro hF
   ·refine wp_skip ?_
    refine h23 _ _ ?_
    refine wp_seq_k fun K25 h25 => ?_
    have hj25 : ∀ (best_2 : List ref03_route) (p_6 : Option Addr) (c_4 : Nat) (p_7 : Option Addr) (tcq_2 : TabH) a w,Has 108 a [(1,pq b_1),(6,.slice p_6 r_1.length c_4),(7,.slice p_7 best_2.length tcq_2.1),(8,i6 b_3),(9,i6 a_1)] → Ctx G (.row p_7 tcq_2.1 ((tabR tcq_2.2 best_2).map (Kd.v kd_151)) 151 3::tabI kd_151 (tabR tcq_2.2 best_2)::.row p_6 c_4 (r_1.map enc_ref03_Point) 143 3::.box b_1 [i6 s_.Left,i6 s_.Right,i6 s_.Gap,i6 s_.Step_,.slice s__Points_p s_.Points.length s__Points_c] 85::Lf) w → ref03_Plan_j25 N a_1 best_2 = some st22 → K25 a w := by
     repeat (clear hF)
     repeat (clear hc)
     repeat (clear hf)
     intro best_2 p_6 c_4 p_7 tcq_2 a w hf hc hF
     unfold ref03_Plan_j25 at hF
     refine h25 _ _ ?_
     refine cReg ?_
     refine sp 3 hf rfl fun a hf => cNil ?_
     exact hK22 (best_2,W (a_1 + 1)) _ _ (sj hF).symm ⟨p_6,c_4,p_7,tcq_2,hf.kp rfl,hc⟩
    refine wp_block ?_
    refine wp_seq_k fun K26 h26 => wp_seq_k fun K27 h27 => ?_
    obtain ⟨e_3,he_3,hF⟩ := bnd_some hF
    obtain ⟨g_1,rfl,qa_2,qr_2⟩ := row_atm hc m0 (tabR_getI he_3)
    obtain ⟨t_1,ht_1,hF⟩ := bnd_some hF
    refine cQ hc follows_mx (by kernel_rfl) ?_
    refine qE hf rfl rfl rfl (Pu.ev (pM rfl)) fun a hf => qE hf rfl rfl rfl (Pu.ev (pM rfl)) fun a hf => qE hf rfl rfl rfl (Pu.ev (pIA Try.underlying149 sz_151 rfl rfl (At.len qa_2 (by simp only [tabR_len,List.length_set])))) fun a hf => qE hf rfl rfl rfl (Pu.ev (pFA fa_151_0 rfl)) fun a hf => qE hf rfl rfl rfl (eLd1 sc_4 rfl (cell_row (sz := 3) (i := a_1.toNat) (j := 0) m0 qr_2 rfl)) fun a hf => qE hf rfl rfl rfl (Pu.ev (pNot rfl)) fun a hf => qE hf rfl rfl rfl (Pu.ev (pM rfl)) fun a hf => qCut 12 (fun a => Has 108 a [(1,pq b_1),(6,.slice p_4 r_1.length c_3),(7,.slice (some ⟨g_1,0,none⟩) best_1.length tcq_1.1),(8,i6 b_3),(9,i6 a_1),(36,.slice (some ⟨g_1,0,none⟩) best_1.length tcq_1.1),(37,i6 a_1),(38,.pointer (some ⟨g_1,a_1.toNat * 3,none⟩)),(39,.pointer (some ⟨g_1,a_1.toNat * 3 + 0,none⟩)),(40,.bool e_3.there),(41,.bool (!e_3.there)),(42,.bool (!e_3.there)),(54,.bool t_1)]) ?_ ?_
    ·cases hb : (!e_3.there)
     ·rw [hb] at hf
      have hF := condF hb ht_1
      obtain ⟨e_4,he_4,hF⟩ := bnd_some hF
      obtain ⟨g_2,rfl,qa_3,qr_3⟩ := row_atm hc m2 he_4
      obtain ⟨e_5,he_5,hF⟩ := bnd_some hF
      obtain ⟨qa_4,qr_4⟩ := row_atk hc m2 he_5
      obtain ⟨r_2,hr_2,hF⟩ := bnd_some hF
      refine qE hf rfl rfl rfl (eLdN (vs := [i6 s_.Left,i6 s_.Right,i6 s_.Gap,i6 s_.Step_,.slice s__Points_p s_.Points.length s__Points_c]) ag_85 rfl rfl (cells_box (n := 5) m3 rfl)) fun a hf => qE hf rfl rfl rfl (Pu.ev (pM rfl)) fun a hf => qE hf rfl rfl rfl (Pu.ev (pM rfl)) fun a hf => qE hf rfl rfl rfl (Pu.ev (pIA Try.underlying83 sz_143 rfl rfl qa_3)) fun a hf => qE hf rfl rfl rfl (eLdN (vs := [i6 e_4.At,i6 e_4.Depth,i6 e_4.Cost]) ag_143 rfl rfl (cells_rw (sz := 3) (i := a_1.toNat) m2 qr_3 (n := 3) (o' := 0) rfl)) fun a hf => qE hf rfl rfl rfl (Pu.ev (pM rfl)) fun a hf => qE hf rfl rfl rfl (Pu.ev (pM rfl)) fun a hf => qE hf rfl rfl rfl (Pu.ev (pIA Try.underlying83 sz_143 rfl rfl qa_4)) fun a hf => qE hf rfl rfl rfl (eLdN (vs := [i6 e_5.At,i6 e_5.Depth,i6 e_5.Cost]) ag_143 rfl rfl (cells_rw (sz := 3) (i := b_3.toNat) m2 qr_4 (n := 3) (o' := 0) rfl)) fun a hf => qE hf rfl rfl rfl (eC (v := .bool r_2) (vs := [.agg #[i6 s_.Left,i6 s_.Right,i6 s_.Gap,i6 s_.Step_,.slice s__Points_p s_.Points.length s__Points_c],.agg #[i6 e_4.At,i6 e_4.Depth,i6 e_4.Cost],.agg #[i6 e_5.At,i6 e_5.Depth,i6 e_5.Cost]]) (caps := []) en_86 rfl rfl rfl rfl (fun w hc => ref03_goes_ok s_ e_4 e_5 h_s__Points hc hr_2)) fun a hf => qE hf rfl rfl rfl (Pu.ev (pNot rfl)) fun a hf => qE hf rfl rfl rfl (Pu.ev (pPf rfl rfl)) fun a hf => ?_
      obtain rfl := sj hF
      exact qNil (hf.kp rfl)
     ·rw [hb] at hf
      have hF := condT hb ht_1
      obtain rfl := sj hF
      refine qS hf rfl rfl rfl fun a hf => qS hf rfl rfl rfl fun a hf => qS hf rfl rfl rfl fun a hf => qS hf rfl rfl rfl fun a hf => qS hf rfl rfl rfl fun a hf => qS hf rfl rfl rfl fun a hf => qS hf rfl rfl rfl fun a hf => qS hf rfl rfl rfl fun a hf => qS hf rfl rfl rfl fun a hf => qS hf rfl rfl rfl fun a hf => qS hf rfl rfl rfl fun a hf => qE hf rfl rfl rfl (Pu.ev (pPt rfl rfl)) fun a hf => qNil (hf.kp rfl)
    intro a hf
    intro w hc
    refine h27 _ _ ?_
    refine zI hf rfl hF ?_ ?_ <;> clear hF <;> intro hF
    ·refine wp_exit ?_
     refine xThen ?_
     refine cHit ?_
     exact hj25 best_1 p_4 c_3 (some ⟨g_1,0,none⟩) tcq_1 _ _  (hf.kp rfl) hc hF
    ·refine wp_skip ?_
     refine h26 _ _ ?_
     refine wp_seq_k fun K28 h28 => ?_
     obtain ⟨e_6,he_6,hF⟩ := bnd_some hF
     obtain ⟨qa_5,qr_5⟩ := row_atk hc m0 (tabR_getI he_6)
     obtain ⟨e_7,he_7,hF⟩ := bnd_some hF
     obtain ⟨g_3,rfl,qa_6,qr_6⟩ := row_atm hc m2 he_7
     obtain ⟨e_8,he_8,hF⟩ := bnd_some hF
     obtain ⟨qa_7,qr_7⟩ := row_atk hc m0 (tabR_getI he_8)
     obtain ⟨un_1,hun_1,hF⟩ := bnd_some hF
     replace hc := hc.nilRow 0 0
     replace hc := hc.nilRow 0 0
     refine regionE (fun θ => [⟨none,none,1,pq b_1⟩,⟨none,none,6,.slice (some ⟨g_3,0,none⟩) r_1.length c_3⟩,⟨none,none,7,.slice (some ⟨g_1,0,none⟩) best_1.length tcq_1.1⟩,⟨none,none,8,i6 b_3⟩,⟨none,none,9,i6 a_1⟩,⟨some 0,none,55,.slice (some ⟨g_1,0,none⟩) best_1.length tcq_1.1⟩,⟨some 1,none,56,i6 a_1⟩,⟨some 2,none,57,.pointer (some ⟨g_1,a_1.toNat * 3,none⟩)⟩,⟨some 3,none,58,.pointer (some ⟨g_1,a_1.toNat * 3 + 1,none⟩)⟩,⟨some 4,none,59,i6 e_6.cost⟩,⟨some 5,none,60,.slice (some ⟨g_3,0,none⟩) r_1.length c_3⟩,⟨some 6,none,61,i6 b_3⟩,⟨some 7,none,62,.pointer (some ⟨g_3,b_3.toNat * 3,none⟩)⟩,⟨some 8,none,63,.pointer (some ⟨g_3,b_3.toNat * 3 + 2,none⟩)⟩,⟨some 9,none,64,i6 e_7.Cost⟩,⟨some 10,none,65,i6 (W (e_6.cost + e_7.Cost))⟩,⟨some 11,none,66,.slice (some ⟨(θ 88).b,0,none⟩) 0 0⟩,⟨some 12,none,67,.slice (some ⟨g_1,0,none⟩) best_1.length tcq_1.1⟩,⟨some 13,none,68,i6 a_1⟩,⟨some 14,none,69,.pointer (some ⟨g_1,a_1.toNat * 3,none⟩)⟩,⟨some 15,none,70,.pointer (some ⟨g_1,a_1.toNat * 3 + 2,none⟩)⟩,⟨some 16,none,71,.slice ((tcq_1.2 a_1.toNat).1) e_8.plan.length ((tcq_1.2 a_1.toNat).2)⟩,⟨some 17,none,72,.slice ((θ 136).p) e_8.plan.length ((θ 136).c)⟩,⟨some 18,none,73,.agg #[.bool true,i6 (W (e_6.cost + e_7.Cost)),.slice ((θ 136).p) e_8.plan.length ((θ 136).c)]⟩,⟨some 19,none,10,.pointer (some ⟨(θ 152).b,0,none⟩)⟩]) (fun E θ => (bif E 20 then .box (θ 152).b [.bool true,i6 (W (e_6.cost + e_7.Cost)),.slice ((θ 136).p) e_8.plan.length ((θ 136).c)] 151 else bif E 19 then .box (θ 152).b [.bool false,i6 0,.slice none 0 0] 151 else .row none 0 [] 0 0)::(bif E 17 then .row ((θ 136).p) ((θ 136).c) (e_8.plan.map encI_i64) 3 1 else bif E 11 then .row (some ⟨(θ 88).b,0,none⟩) 0 (([] : List Int).map encI_i64) 3 1 else .row none 0 [] 0 0)::.row (some ⟨g_1,0,none⟩) tcq_1.1 ((tabR tcq_1.2 best_1).map (Kd.v kd_151)) 151 3::tabI kd_151 (tabR tcq_1.2 best_1)::.row (some ⟨g_3,0,none⟩) c_3 (r_1.map enc_ref03_Point) 143 3::.box b_1 [i6 s_.Left,i6 s_.Right,i6 s_.Gap,i6 s_.Step_,.slice s__Points_p s_.Points.length s__Points_c] 85::Lf) [(17,11),(20,17),(18,17),(20,19)] (fun a w => ∃ (b_7 : Nat) (p_9 : Option Addr) (c_6 : Nat),Has 108 a [(1,pq b_1),(6,.slice (some ⟨g_3,0,none⟩) r_1.length c_3),(7,.slice (some ⟨g_1,0,none⟩) best_1.length tcq_1.1),(8,i6 b_3),(9,i6 a_1),(10,pq b_7)] ∧ Ctx G (.box b_7 [.bool true,i6 (W (e_6.cost + e_7.Cost)),.slice p_9 e_8.plan.length c_6] 151::.row p_9 c_6 (e_8.plan.map encI_i64) 3 1::.row (some ⟨g_1,0,none⟩) tcq_1.1 ((tabR tcq_1.2 best_1).map (Kd.v kd_151)) 151 3::tabI kd_151 (tabR tcq_1.2 best_1)::.row (some ⟨g_3,0,none⟩) c_3 (r_1.map enc_ref03_Point) 143 3::.box b_1 [i6 s_.Left,i6 s_.Right,i6 s_.Gap,i6 s_.Step_,.slice s__Points_p s_.Points.length s__Points_c] 85::Lf) w) follows_mx (by kernel_rfl) (by kernel_rfl) (HasE.of hf ⟨rfl,rfl,rfl,rfl,rfl,trivial,trivial,trivial,trivial,trivial,trivial,trivial,trivial,trivial,trivial,trivial,trivial,trivial,trivial,trivial,trivial,trivial,trivial,trivial,trivial,trivial⟩) hc ⟨?_,?_,?_,?_,?_,?_,?_,?_,?_,?_,?_,?_,?_,?_,?_,?_,?_,?_,?_,?_,?_,trivial⟩ ?_ ?_
     ·intro E θ a w hD hi hp he hc
      have hf := he.h0.mT he 2 rfl
      refine sp 1 hf rfl fun a hf => zD θ he hi hf 5 rfl rfl rfl hc
     ·intro E θ a w hD hi hp he hc
      have hf := he.h0.mT he 4 rfl
      refine sp 1 hf rfl fun a hf => zD θ he hi hf 6 rfl rfl rfl hc
     ·intro E θ a w hD hi hp he hc
      have e0 := hp.o 0 rfl
      have e1 := hp.o 1 rfl
      have hf := (he.h0.mP he 5 rfl e0).mP he 6 rfl e1
      refine zP hf rfl (pIA Try.underlying149 sz_151 rfl rfl (At.len qa_5 (by simp only [tabR_len,List.length_set]))) fun a hf => zD θ he hi hf 7 rfl rfl rfl hc
     ·intro E θ a w hD hi hp he hc
      have e2 := hp.o 2 rfl
      have hf := he.h0.mP he 7 rfl e2
      refine zP hf rfl (pFA fa_151_1 rfl) fun a hf => zD θ he hi hf 8 rfl rfl rfl hc
     ·intro E θ a w hD hi hp he hc
      have e3 := hp.o 3 rfl
      have hf := he.h0.mP he 8 rfl e3
      refine zE hf hc rfl (eLd1 sc_3 rfl (cell_row (sz := 3) (i := a_1.toNat) (j := 1) m2 qr_5 rfl)) fun a w hf hc => zD θ he hi hf 9 rfl rfl rfl hc
     ·intro E θ a w hD hi hp he hc
      have hf := he.h0.mT he 1 rfl
      refine sp 1 hf rfl fun a hf => zD θ he hi hf 10 rfl rfl rfl hc
     ·intro E θ a w hD hi hp he hc
      have hf := he.h0.mT he 3 rfl
      refine sp 1 hf rfl fun a hf => zD θ he hi hf 11 rfl rfl rfl hc
     ·intro E θ a w hD hi hp he hc
      have e5 := hp.o 5 rfl
      have e6 := hp.o 6 rfl
      have hf := (he.h0.mP he 10 rfl e5).mP he 11 rfl e6
      refine zP hf rfl (pIA Try.underlying83 sz_143 rfl rfl qa_6) fun a hf => zD θ he hi hf 12 rfl rfl rfl hc
     ·intro E θ a w hD hi hp he hc
      have e7 := hp.o 7 rfl
      have hf := he.h0.mP he 12 rfl e7
      refine zP hf rfl (pFA fa_143_2 rfl) fun a hf => zD θ he hi hf 13 rfl rfl rfl hc
     ·intro E θ a w hD hi hp he hc
      have e8 := hp.o 8 rfl
      have hf := he.h0.mP he 13 rfl e8
      refine zE hf hc rfl (eLd1 sc_3 rfl (cell_row (sz := 3) (i := b_3.toNat) (j := 2) m4 qr_6 rfl)) fun a w hf hc => zD θ he hi hf 14 rfl rfl rfl hc
     ·intro E θ a w hD hi hp he hc
      have e4 := hp.o 4 rfl
      have e9 := hp.o 9 rfl
      have hf := (he.h0.mP he 9 rfl e4).mP he 14 rfl e9
      refine sp 1 hf rfl fun a hf => zD θ he hi hf 15 rfl rfl rfl hc
     ·intro E θ a w hD hi hp he hc
      have e17 := hD.f 0 rfl hi
      try dsimp only at hc
      rw [hi,e17] at hc
      have hf := he.h0
      refine stBS (rows := ([] : List Int).map encI_i64) (vs := []) hf hc rfl rfl sl_43 rfl trivial rfl rfl fun b_5 a w hf hc => cNil ?_
      refine xThenN ?_
      intro ds u hau
      replace hc := ((hc.drop k2).pick k0).pick k1
      refine ⟨(setT θ 88 ⟨b_5,none,0,(fun _ => (none,0))⟩),he.put hi hau hf rfl [] trivial ⟨qq,qq,qq,qq,qq,qq,qq,qq,qq,qq,qq,qq,qq,qq,qq,qq,qq,qq,qq,qq,qq,qq,qq,qq,qq,trivial⟩,?_⟩
      try dsimp only
      rw [updE_self E 11,updE_fls 11 e17 rfl]
      exact hc
     ·intro E θ a w hD hi hp he hc
      have hf := he.h0.mT he 2 rfl
      refine sp 1 hf rfl fun a hf => zD θ he hi hf 17 rfl rfl rfl hc
     ·intro E θ a w hD hi hp he hc
      have hf := he.h0.mT he 4 rfl
      refine sp 1 hf rfl fun a hf => zD θ he hi hf 18 rfl rfl rfl hc
     ·intro E θ a w hD hi hp he hc
      have e12 := hp.o 12 rfl
      have e13 := hp.o 13 rfl
      have hf := (he.h0.mP he 17 rfl e12).mP he 18 rfl e13
      refine zP hf rfl (pIA Try.underlying149 sz_151 rfl rfl (At.len qa_7 (by simp only [tabR_len,List.length_set]))) fun a hf => zD θ he hi hf 19 rfl rfl rfl hc
     ·intro E θ a w hD hi hp he hc
      have e14 := hp.o 14 rfl
      have hf := he.h0.mP he 19 rfl e14
      refine zP hf rfl (pFA fa_151_2 rfl) fun a hf => zD θ he hi hf 20 rfl rfl rfl hc
     ·intro E θ a w hD hi hp he hc
      have e15 := hp.o 15 rfl
      have hf := he.h0.mP he 20 rfl e15
      refine zE hf hc rfl (eLd1 sc_43 rfl (cell_row (sz := 3) (i := a_1.toNat) (j := 2) m2 qr_7 rfl)) fun a w hf hc => zD θ he hi hf 21 rfl rfl rfl hc
     ·intro E θ a w hD hi hp he hc
      have e11 := hp.o 11 rfl
      have e16 := hp.o 16 rfl
      have e20 := hD.f 1 rfl hi
      have e18 := hD.f 2 rfl hi
      try dsimp only at hc
      rw [e11,hi,e20] at hc
      have hf := (he.h0.mP he 16 rfl e11).mP he 21 rfl e16
      refine stApm (xs := ([] : List Int)) (ys := e_8.plan) hf hc rfl rfl sl_43 rfl rfl rfl rfl rfl one_encI_i64 (src_row hc (tabS m3 he_8)) (fun _ _ => u1) (by simpa using room_spec hun_1) fun p_8 c_5 a w hf hc => cNil ?_
      refine xThenN ?_
      intro ds u hau
      refine ⟨(setT θ 136 ⟨0,p_8,c_5,(fun _ => (none,0))⟩),he.put hi hau hf rfl [18] ⟨⟨e18,rfl⟩,trivial⟩ ⟨qq,qq,qq,qq,qq,qq,qq,qq,qq,qq,qq,qq,qq,qq,qq,qq,qq,qq,qq,qq,qq,qq,qq,trivial,qq,trivial⟩,?_⟩
      try dsimp only
      rw [updE_tru 17 e11,updE_self E 17,updE_fls 17 e20 rfl]
      exact hc
     ·intro E θ a w hD hi hp he hc
      have e10 := hp.o 10 rfl
      have e17 := hp.o 17 rfl
      have hf := (he.h0.mP he 15 rfl e10).mP he 22 rfl e17
      refine zP hf rfl (pBuildS (cells := [.bool true,i6 (W (e_6.cost + e_7.Cost)),.slice ((θ 136).p) e_8.plan.length ((θ 136).c)]) bt_151 rfl rfl) fun a hf => zD θ he hi hf 23 rfl rfl rfl hc
     ·intro E θ a w hD hi hp he hc
      have e20 := hD.f 3 rfl hi
      try dsimp only at hc
      rw [hi,e20] at hc
      have hf := he.h0
      refine zA hf hc zr_151 rfl fun b_6 a w hf hc => cNil ?_
      refine xThenN ?_
      intro ds u hau
      replace hc := hc.drop k1
      refine ⟨(setT θ 152 ⟨b_6,none,0,(fun _ => (none,0))⟩),he.put hi hau hf rfl [] trivial ⟨qq,qq,qq,qq,qq,qq,qq,qq,qq,qq,qq,qq,qq,qq,qq,qq,qq,qq,qq,qq,qq,qq,qq,qq,qq,trivial⟩,?_⟩
      try dsimp only
      rw [updE_self E 19,updE_fls 19 e20 rfl]
      exact hc
     ·intro E θ a w hD hi hp he hc
      have e18 := hp.o 18 rfl
      have e19 := hp.o 19 rfl
      try dsimp only at hc
      rw [e19,hi] at hc
      have hf := (he.h0.mP he 23 rfl e18).mP he 24 rfl e19
      refine zW hf hc sz_151 u0 rfl fun w hc => zG θ he hi hf rfl ?_
      try dsimp only
      rw [updE_tru 20 e19,updE_self E 20]
      exact hc
     ·intro E θ a w hall he hc
      have hf := he.h0
      have e11 := hall 11 rfl
      have e17 := hall 17 rfl
      have e19 := hall 19 rfl
      have e20 := hall 20 rfl
      replace hf := hf.more he 24 rfl (onP e19)
      replace hf := hf.more he 4 rfl (onT)
      replace hf := hf.more he 3 rfl (onT)
      replace hf := hf.more he 2 rfl (onT)
      replace hf := hf.more he 1 rfl (onT)
      replace hf := hf.more he 0 rfl (onT)
      try dsimp only at hc
      rw [e11,e17,e19,e20] at hc
      exact ⟨(θ 152).b,(θ 136).p,(θ 136).c,hf.kp rfl,hc⟩
     rintro a w ⟨b_7,p_9,c_6,hf,hc⟩
     refine h28 _ _ ?_
     refine wp_seq_k fun K29 h29 => ?_
     have hj29 : ∀ (x : List Int) (p_10 : Option Addr) (c_7 : Nat) a w,Has 108 a [(1,pq b_1),(6,.slice (some ⟨g_3,0,none⟩) r_1.length c_3),(7,.slice (some ⟨g_1,0,none⟩) best_1.length tcq_1.1),(8,i6 b_3),(9,i6 a_1),(10,pq b_7)] → Ctx G (.box b_7 [.bool true,i6 (W (e_6.cost + e_7.Cost)),.slice p_10 x.length c_7] 151::.row p_10 c_7 (x.map encI_i64) 3 1::.row (some ⟨g_1,0,none⟩) tcq_1.1 ((tabR tcq_1.2 best_1).map (Kd.v kd_151)) 151 3::tabI kd_151 (tabR tcq_1.2 best_1)::.row (some ⟨g_3,0,none⟩) c_3 (r_1.map enc_ref03_Point) 143 3::.box b_1 [i6 s_.Left,i6 s_.Right,i6 s_.Gap,i6 s_.Step_,.slice s__Points_p s_.Points.length s__Points_c] 85::Lf) w → ref03_Plan_j29 N b_3 best_1 a_1 e_6 e_7 x = some st22 → K29 a w := by
      repeat (clear hF)
      repeat (clear hc)
      repeat (clear hf)
      intro x p_10 c_7 a w hf hc hF
      unfold ref03_Plan_j29 at hF
      refine h29 _ _ ?_
      refine wp_seq_k fun K30 h30 => ?_
      obtain ⟨e_9,he_9,hF⟩ := bnd_some hF
      obtain ⟨qa_8,qr_8⟩ := row_atk hc m2 (tabR_getI he_9)
      obtain ⟨r_3,hr_3,hF⟩ := bnd_some hF
      refine cQ hc follows_mx (by kernel_rfl) ?_
      refine qE hf rfl rfl rfl (eLdN (vs := [.bool true,i6 (W (e_6.cost + e_7.Cost)),.slice p_10 x.length c_7]) ag_151 rfl rfl (cells_box (n := 3) m0 rfl)) fun a hf => qE hf rfl rfl rfl (Pu.ev (pM rfl)) fun a hf => qE hf rfl rfl rfl (Pu.ev (pM rfl)) fun a hf => qE hf rfl rfl rfl (Pu.ev (pIA Try.underlying149 sz_151 rfl rfl (At.len qa_8 (by simp only [tabR_len,List.length_set])))) fun a hf => qE hf rfl rfl rfl (eLdN (vs := [.bool e_9.there,i6 e_9.cost,.slice ((tcq_1.2 b_3.toNat).1) e_9.plan.length ((tcq_1.2 b_3.toNat).2)]) ag_151 rfl rfl (cells_rw (sz := 3) (i := b_3.toNat) m2 qr_8 (n := 3) (o' := 0) rfl)) fun a hf => qE hf rfl rfl rfl (eC (v := .bool r_3) (vs := [.agg #[.bool true,i6 (W (e_6.cost + e_7.Cost)),.slice p_10 x.length c_7],.agg #[.bool e_9.there,i6 e_9.cost,.slice ((tcq_1.2 b_3.toNat).1) e_9.plan.length ((tcq_1.2 b_3.toNat).2)]]) (caps := []) en_87 rfl rfl rfl rfl (fun w hc => by obtain ⟨G1,hle1,hrd1,hc,hth1⟩ := lend hc k1; obtain ⟨G2,hle2,hrd2,hc,hth2⟩ := lendI kdo_151 hc k2; exact (ref03_better_ok (⟨true,W (e_6.cost + e_7.Cost),x⟩ : ref03_route) e_9 (hrd1.mono hle2) (hrd2 _ _ he_9) hc hr_3).mono fun e w h => ⟨h.1,((hth1 _ _ ((hth2 _ _ h.2).unpick k2)).unpick k1)⟩)) fun a hf => ?_
      intro w hc
      refine h30 _ _ ?_
      refine zI hf rfl hF ?_ ?_ <;> clear hF <;> intro hF
      ·refine cReg ?_
       refine sp 2 hf rfl fun a hf => zN hf hc ag_151 m0 rfl fun a w hf hc => ?_
       obtain ⟨e_10,he_10,hF⟩ := bnd_some hF
       obtain ⟨qa_9,qr_9⟩ := row_atk hc m2 (tabR_getI he_10)
       refine zP hf rfl (pIA Try.underlying149 sz_151 rfl rfl (At.len qa_9 (by simp only [tabR_len,List.length_set]))) fun a hf => ?_
       replace hc := (tab_out (hc.pick k3) he_10).tail
       replace hc : Ctx G (tabI kd_151 ((tabR tcq_1.2 best_1).eraseIdx b_3.toNat)::.box b_7 [.bool true,i6 (W (e_6.cost + e_7.Cost)),.slice p_10 x.length c_7] 151::.row p_10 c_7 (x.map encI_i64) 3 1::.row (some ⟨g_1,0,none⟩) tcq_1.1 ((tabR tcq_1.2 best_1).map (Kd.v kd_151)) 151 3::.row (some ⟨g_3,0,none⟩) c_3 (r_1.map enc_ref03_Point) 143 3::.box b_1 [i6 s_.Left,i6 s_.Right,i6 s_.Gap,i6 s_.Step_,.slice s__Points_p s_.Points.length s__Points_c] 85::Lf) w := hc
       refine stRw (vs := [.bool true,i6 (W (e_6.cost + e_7.Cost)),.slice p_10 x.length c_7]) (o' := 0) (z := ((p_10,c_7),(⟨true,W (e_6.cost + e_7.Cost),x⟩ : ref03_route))) (xs := (tabR tcq_1.2 best_1)) hf hc rfl rfl rfl rfl sz_151 rfl (fun x => (one_kd_151 x).1) (getI_lt (tabR_getI he_10)) (fun e _ => splW (one_kd_151 e).1) rfl u3 fun w hc => ?_
       replace hc := (((hc.pick k1).pick k1).pick k3).pick k3
       obtain ⟨hsq_1,hc⟩ := tab_store (K := kd_151) (h' := (p_10,c_7)) (y := (⟨true,W (e_6.cost + e_7.Cost),x⟩ : ref03_route)) he_10 hc
       replace hc : Ctx G (.row (some ⟨g_1,0,none⟩) tcq_1.1 ((tabR hsq_1 (best_1.set b_3.toNat (⟨true,W (e_6.cost + e_7.Cost),x⟩ : ref03_route))).map (Kd.v kd_151)) 151 3::tabI kd_151 (tabR hsq_1 (best_1.set b_3.toNat (⟨true,W (e_6.cost + e_7.Cost),x⟩ : ref03_route)))::.box b_7 [.bool true,i6 (W (e_6.cost + e_7.Cost)),.slice p_10 x.length c_7] 151::.row (some ⟨g_3,0,none⟩) c_3 (r_1.map enc_ref03_Point) 143 3::.box b_1 [i6 s_.Left,i6 s_.Right,i6 s_.Gap,i6 s_.Step_,.slice s__Points_p s_.Points.length s__Points_c] 85::Lf) w := hc
       refine cNil ?_
       replace hf := hf.castAt 7 (v' := .slice (some ⟨g_1,0,none⟩) ((best_1.set b_3.toNat (⟨true,W (e_6.cost + e_7.Cost),x⟩ : ref03_route)).length) tcq_1.1) rfl (congrArg (fun k => Value.slice (some ⟨g_1,0,none⟩) k tcq_1.1) (by simp))
       replace hc := hc.drop k2
       exact hj25 (best_1.set b_3.toNat (⟨true,W (e_6.cost + e_7.Cost),x⟩ : ref03_route)) (some ⟨g_3,0,none⟩) c_3 (some ⟨g_1,0,none⟩) (tcq_1.1,hsq_1) _ _  (hf.kp rfl) hc hF
      ·refine wp_skip ?_
       replace hc := (hc.drop k1).drop k0
       exact hj25 best_1 (some ⟨g_3,0,none⟩) c_3 (some ⟨g_1,0,none⟩) tcq_1 _ _  (hf.kp rfl) hc hF
     refine zS fun K h => sp 2 hf rfl fun a hf => zP hf rfl (pLenS Try.underlying83 rfl) fun a hf => sp 2 hf rfl fun a hf => zT h ?_
     refine zI hf rfl hF ?_ ?_ <;> clear hF <;> intro hF
     ·refine cReg ?_
      refine zP hf rfl (pFA fa_151_2 rfl) fun a hf => zL hf hc sc_43 m0 rfl fun a w hf hc => sp 1 hf rfl fun a hf => stBS (rows := ([b_3] : List Int).map encI_i64) (vs := [(0,i6 b_3)]) hf hc rfl rfl sl_43 rfl ⟨rfl,rfl,rfl,trivial⟩ rfl rfl fun b_8 a w hf hc => ?_
      obtain ⟨un_2,hun_2,hF⟩ := bnd_some hF
      refine stApm (xs := e_8.plan) (ys := ([b_3] : List Int)) hf hc rfl rfl sl_43 rfl rfl rfl rfl rfl one_encI_i64 (src_row hc m0) (fun _ _ => u2) (by simpa using room_spec hun_2) fun p_11 c_8 a w hf hc => zP hf rfl (pFA fa_151_2 rfl) fun a hf => zW hf hc sz_43 u1 rfl fun w hc => cNil ?_
      replace hc := hc.drop k0
      exact hj29 (e_8.plan ++ [b_3]) p_11 c_8 _ _  (hf.kp rfl) hc hF
     ·refine wp_skip ?_
      exact hj29 e_8.plan p_9 c_6 _ _  (hf.kp rfl) hc hF
   ·refine wp_exit ?_
    refine xThen ?_
    refine xThen ?_
    have he := sj hF
    rw [← he] at hfin22
    refine cHit ?_
    exact hr22 _ _ _ hfin22 ⟨p_4,c_3,p_5,tcq_1,hf.kp rfl,hc⟩
  ·refine wp_exit ?_
   refine xThen ?_
   refine xThen ?_
   have he := sj hF
   rw [← he] at hfin11
   refine cHit ?_
   exact hr11 _ _ _ hfin11 ⟨p_2,c_2,p_3,tcq,hf.kp rfl,hc⟩

def gauge_Tolls_b14 (N : Nat) (s_ : gauge_Site) (r_1 : Int × Int × Int × Int × (Nat → gauge_spent) × (Int → Option Int) × Int) (out : List Int) (x : Int) : Option (Step ((List Int) × Int) ((List Int) × Int)) :=
 cond (decide (x < (W (((s_.Points.length : Nat) : Int) + 2))))
 (Option.bind (inR x 32) fun un_1 =>
 Option.bind (room ((out ++ [max 0 (W (((r_1.2.2.2.2.1 (0 : Int).toNat).cost) - ((r_1.2.2.2.2.1 x.toNat).cost)))])).length) fun un_2 =>
 some (.cont ((out ++ [max 0 (W (((r_1.2.2.2.2.1 (0 : Int).toNat).cost) - ((r_1.2.2.2.2.1 x.toNat).cost)))]),W (x + 1))))
 (some (.brk (out,x)))
def gauge_Tolls (N : Nat) (s_ : gauge_Site) : Option ((List Int) × Int) :=
 Option.bind (gauge_opened N s_) (sumK (fun r => cond (r != 0)
 (some (([] : List Int),r))
 (none))
 (fun r_1 => cond (r_1.2.2.2.2.2.2 != 0)
 (some (([] : List Int),r_1.2.2.2.2.2.2))
 (Option.bind (inR 0 32) fun un =>
 Option.bind (loopO (fun s14 => gauge_Tolls_b14 N s_ r_1 s14.1 s14.2) N (([] : List Int),0)) fun x14 =>
 exK x14 (fun s14 => some (s14.1,0)) some)))
theorem gauge_Tolls_ok {N : Nat} {G : Pers} {Lf : List Ent} {w : World} (s_ : gauge_Site) {s__Points_p : Option Addr} {s__Points_c : Nat} (h_s__Points : Rd G 3 s__Points_p s__Points_c (s_.Points.map enc_gauge_Point)) (hc : Ctx G (Lf) w) {res : (List Int) × Int} (hF : gauge_Tolls N s_ = some res) : Calls Try.prog 42 #[.agg #[i6 s_.Left,i6 s_.Right,i6 s_.Gap,i6 s_.Step_,.slice s__Points_p s_.Points.length s__Points_c]] w (fun e w => ∃ (p'1 : Option Addr) (c'1 : Nat),e = .returned (.tuple #[.slice p'1 res.1.length c'1,i6 res.2]) ∧ Ctx G (.row p'1 c'1 (res.1.map encI_i64) 3 1::Lf) w) := by
 unfold gauge_Tolls at hF
 refine fnIn Try.func42 rfl Try.ntmps42 rfl fun a hf => zS fun K h => zB hf hc rfl fun b_1 a w hf hc => sp 2 hf rfl fun a hf => zT h ?_
 refine zS fun K h => zN hf hc ag_55 m0 rfl fun a w hf hc => ?_
 obtain ⟨r,hr,hF⟩ := bnd_some hF
 cases r with
 | inl r =>
  replace hF := sumKl hF
  refine zC hf en_66 rfl (gauge_opened_ok s_ h_s__Points hc hr) ?_
  rintro _ w ⟨rfl,hc⟩
  refine ⟨_,rfl,fun a hf => ?_⟩
  refine sp 5 hf rfl fun a hf => zT h ?_
  refine wp_seq_k fun K3 h3 => zS fun K h => sp 2 hf rfl fun a hf => zT h ?_
  refine zI hf rfl hF ?_ ?_ <;> clear hF <;> intro hF
  ·refine zS fun K h => sp 3 hf rfl fun a hf => zT h ?_
   refine wp_ret ?_
   refine xThenR ?_
   obtain rfl := sj hF
   replace hc := hc.nilRow 3 1
   replace hc := hc.drop k1
   exact zO2 Try.results42 hf rfl rfl ⟨none,0,rfl,hc⟩
  ·refine wp_skip ?_
   refine h3 _ _ ?_
   refine wp_seq_k fun K6 h6 => noneO hF
 | inr r_1 =>
  replace hF := sumKr hF
  have hr_1 := hr
  refine zC hf en_66 rfl (gauge_opened_ok s_ h_s__Points hc hr_1) ?_
  rintro _ w ⟨b_2,b_3,rfl,hc⟩
  refine ⟨_,rfl,fun a hf => ?_⟩
  refine sp 5 hf rfl fun a hf => zT h ?_
  refine wp_seq_k fun K7 h7 => zS fun K h => sp 2 hf rfl fun a hf => zT h ?_
  refine zI hf rfl hF ?_ ?_ <;> clear hF <;> intro hF
  ·refine zS fun K h => sp 3 hf rfl fun a hf => zT h ?_
   refine wp_ret ?_
   refine xThenR ?_
   obtain rfl := sj hF
   replace hc := hc.nilRow 3 1
   replace hc := ((hc.drop k3).drop k2).drop k1
   exact zO2 Try.results42 hf rfl rfl ⟨none,0,rfl,hc⟩
  ·refine wp_skip ?_
   refine h7 _ _ ?_
   refine zS fun K h => sp 2 hf rfl fun a hf => zP hf rfl (pFA fa_130_1 rfl) fun a hf => ?_
   obtain ⟨un,hun,hF⟩ := bnd_some hF
   refine zP hf rfl (pIAA Try.underlying127 sz_126 rfl rfl (inR_spec hun).1 (inR_spec hun).2) fun a hf => zP hf rfl (pFA fa_126_0 rfl) fun a hf => zE hf hc rfl (eLd1 sc_3 rfl (cell_arr (j := 0) m1 (fun x => (one_enc_gauge_spent x).1) rfl hun rfl)) fun a w hf hc => sp 1 hf rfl fun a hf => zT h ?_
   refine zS fun K h => sp 1 hf rfl fun a hf => zT h ?_
   refine wp_seq_k fun K12 h12 => zS fun K h => zP hf rfl (pFA fa_55_4 rfl) fun a hf => zL hf hc sc_53 m2 rfl fun a w hf hc => zP hf rfl (pLenS Try.underlying53 rfl) fun a hf => sp 2 hf rfl fun a hf => zT h ?_
   refine wp_block ?_
   obtain ⟨x14,hx14,hF⟩ := bnd_some hF
   let S14 : ((List Int) × Int) → Act → World → Prop := (fun (zz : (List Int) × Int) a w => ∃ (p_1 : Option Addr) (c_1 : Nat),Has 45 a [(4,pq b_2),(6,i6 ((r_1.2.2.2.2.1 (0 : Int).toNat).cost)),(7,.slice p_1 zz.1.length c_1),(26,i6 (W (((s_.Points.length : Nat) : Int) + 2))),(27,i6 zz.2)] ∧ Ctx G (.row p_1 c_1 (zz.1.map encI_i64) 3 1::.im b_3 (fun j => (r_1.2.2.2.2.2.1 j).map (Value.int .i64)) none::.box b_2 (catc [i6 r_1.1,i6 r_1.2.1,i6 r_1.2.2.1,i6 r_1.2.2.2.1,.slice s__Points_p s_.Points.length s__Points_c] 32 enc_gauge_spent r_1.2.2.2.2.1 [.map (some b_3)]) 130::Lf) w)
   have hr14 : ∀ (zz : (List Int) × Int) a w,x14 = .go zz → S14 zz a w → K12 a w := by
    rintro ⟨out,x⟩ a w rfl ⟨p_1,c_1,hf,hc⟩
    replace hF := exK_go hF
    refine h12 _ _ ?_
    refine zS fun K h => sp 3 hf rfl fun a hf => zT h ?_
    refine wp_ret ?_
    obtain rfl := sj hF
    replace hc := (hc.drop k2).drop k1
    exact zO2 Try.results42 hf rfl rfl ⟨p_1,c_1,rfl,hc⟩
   have ho14 : ∀ r,x14 = .out r → r = res := by
    rintro r rfl
    exact sj hF
   replace hc := hc.nilRow 3 1
   replace hc := hc.drop k3
   refine cLoop N (loopW (S := S14) (x := x14) ?_ N (([] : List Int),0) _ _ ⟨none,0,hf.kp rfl,hc⟩ hx14)
   clear hF hf hc
   rintro ⟨out,x⟩ st14 a w KB14 ⟨p_1,c_1,hf,hc⟩ hF hfin14 hK14
   unfold gauge_Tolls_b14 at hF
   refine zS fun K h => sp 1 hf rfl fun a hf => zT h ?_
   refine wp_seq_k fun K17 h17 => zI hf rfl hF ?_ ?_ <;> clear hF <;> intro hF
   ·refine wp_skip ?_
    refine h17 _ _ ?_
    refine wp_seq_k fun K18 h18 => wp_block ?_
    refine zS fun K h => sp 2 hf rfl fun a hf => zT h ?_
    refine cReg ?_
    refine sp 5 hf rfl fun a hf => zP hf rfl (pFA fa_130_1 rfl) fun a hf => ?_
    obtain ⟨un_1,hun_1,hF⟩ := bnd_some hF
    refine zP hf rfl (pIAA Try.underlying127 sz_126 rfl rfl (inR_spec hun_1).1 (inR_spec hun_1).2) fun a hf => zP hf rfl (pFA fa_126_0 rfl) fun a hf => zE hf hc rfl (eLd1 sc_3 rfl (cell_arr (j := 0) m2 (fun x => (one_enc_gauge_spent x).1) rfl hun_1 rfl)) fun a w hf hc => sp 1 hf rfl fun a hf => zP hf rfl (pMax2 rfl rfl) fun a hf => stBS (rows := ([max 0 (W (((r_1.2.2.2.2.1 (0 : Int).toNat).cost) - ((r_1.2.2.2.2.1 x.toNat).cost)))] : List Int).map encI_i64) (vs := [(0,i6 (max 0 (W (((r_1.2.2.2.2.1 (0 : Int).toNat).cost) - ((r_1.2.2.2.2.1 x.toNat).cost)))))]) hf hc rfl rfl sl_43 rfl ⟨rfl,rfl,rfl,trivial⟩ rfl rfl fun b_4 a w hf hc => ?_
    obtain ⟨un_2,hun_2,hF⟩ := bnd_some hF
    refine stApm (xs := out) (ys := ([max 0 (W (((r_1.2.2.2.2.1 (0 : Int).toNat).cost) - ((r_1.2.2.2.2.1 x.toNat).cost)))] : List Int)) hf hc rfl rfl sl_43 rfl rfl rfl rfl rfl one_encI_i64 (src_row hc m0) (fun _ _ => u1) (by simpa using room_spec hun_2) fun p_2 c_2 a w hf hc => sp 1 hf rfl fun a hf => cNil ?_
    refine h18 _ _ ?_
    refine cReg ?_
    refine sp 2 hf rfl fun a hf => cNil ?_
    replace hc := hc.drop k0
    exact hK14 ((out ++ [max 0 (W (((r_1.2.2.2.2.1 (0 : Int).toNat).cost) - ((r_1.2.2.2.2.1 x.toNat).cost)))]),W (x + 1)) _ _ (sj hF).symm ⟨p_2,c_2,hf.kp rfl,hc⟩
   ·refine wp_exit ?_
    refine xThen ?_
    refine xThen ?_
    have he := sj hF
    rw [← he] at hfin14
    refine cHit ?_
    exact hr14 _ _ _ hfin14 ⟨p_1,c_1,hf.kp rfl,hc⟩

def ref03_Proves_b25 (N : Nat) (s_ : ref03_Site) (tolls : List Int) (r_1 : (List ref03_Point)) (a_1 : Int) (b_4 : Int) : Option (Step (Int) (Step (Int) (Bool × Int))) :=
 cond (decide (b_4 < ((r_1.length : Nat) : Int)))
 (Option.bind (getI r_1 a_1) fun e_3 =>
 Option.bind (getI r_1 b_4) fun e_4 =>
 Option.bind (ref03_goes N s_ e_3 e_4) fun r_2 =>
 Option.bind (cond r_2 (Option.bind (getI tolls a_1) fun e_5 =>
 Option.bind (getI r_1 b_4) fun e_6 =>
 Option.bind (getI tolls b_4) fun e_7 =>
 some (decide ((W (e_5 + e_6.Cost)) < e_7))) (some false)) fun t_1 =>
 cond t_1
 (some (.ret (.ret (false,0))))
 (some (.cont (W (b_4 + 1)))))
 (some (.brk b_4))
def ref03_Proves_b18 (N : Nat) (s_ : ref03_Site) (tolls : List Int) (r_1 : (List ref03_Point)) (a_1 : Int) : Option (Step (Int) (Bool × Int)) :=
 cond (decide (a_1 < ((r_1.length : Nat) : Int)))
 (Option.bind (loopO (fun s25 => ref03_Proves_b25 N s_ tolls r_1 a_1 s25) N (W (a_1 + 1))) fun x25 =>
 exK x25 (fun s25 => some (.cont (W (a_1 + 1)))) some)
 (some (.brk a_1))
def ref03_Proves_b12 (N : Nat) (tolls : List Int) (i_1 : Int) : Option (Step (Int) (Bool × Int)) :=
 cond (decide (i_1 < ((tolls.length : Nat) : Int)))
 (Option.bind (getI tolls i_1) fun e_8 =>
 cond (ref03_outside e_8 (-1000000000) 1000000000)
 (some (.ret (false,4)))
 (some (.cont (W (i_1 + 1)))))
 (some (.brk i_1))
def ref03_Proves (N : Nat) (s_ : ref03_Site) (tolls : List Int) (cost : Int) : Option (Bool × Int) :=
 Option.bind (ref03_CheckSite N s_) fun r =>
 cond (r != 0)
 (some (false,r))
 (Option.bind (ref03_stations N s_) fun r_1 =>
 cond (((tolls.length : Nat) : Int) != ((r_1.length : Nat) : Int))
 (some (false,2))
 (Option.bind (loopO (fun s12 => ref03_Proves_b12 N tolls s12) N 0) fun x12 =>
 exK x12 (fun s12 => cond (ref03_outside cost 0 1000000000)
 (some (false,4))
 (Option.bind (loopO (fun s18 => ref03_Proves_b18 N s_ tolls r_1 s18) N 0) fun x18 =>
 exK x18 (fun s18 => Option.bind (getI tolls 0) fun e_1 =>
 Option.bind (getI tolls (W (((r_1.length : Nat) : Int) - 1))) fun e_2 =>
 some ((decide ((W (e_1 + cost)) ≤ e_2)),0)) some)) some))
theorem ref03_Proves_ok {N : Nat} {G : Pers} {Lf : List Ent} {w : World} (s_ : ref03_Site) (tolls : List Int) (cost : Int) {s__Points_p : Option Addr} {s__Points_c : Nat} {tolls_p : Option Addr} {tolls_c : Nat} (h_s__Points : Rd G 3 s__Points_p s__Points_c (s_.Points.map enc_ref03_Point)) (h_tolls : Rd G 1 tolls_p tolls_c (tolls.map encI_i64)) (hc : Ctx G (Lf) w) {res : Bool × Int} (hF : ref03_Proves N s_ tolls cost = some res) : Calls Try.prog 43 #[.agg #[i6 s_.Left,i6 s_.Right,i6 s_.Gap,i6 s_.Step_,.slice s__Points_p s_.Points.length s__Points_c],.slice tolls_p tolls.length tolls_c,i6 cost] w (fun e w => e = .returned (.tuple #[.bool res.1,i6 res.2]) ∧ Ctx G (Lf) w) := by
 unfold ref03_Proves at hF
 refine fnIn Try.func43 rfl Try.ntmps43 rfl fun a hf => zS fun K h => zB hf hc rfl fun b_1 a w hf hc => sp 2 hf rfl fun a hf => zT h ?_
 refine wp_seq_k fun K2 h2 => zS fun K h => zN hf hc ag_85 m0 rfl fun a w hf hc => ?_
 obtain ⟨r,hr,hF⟩ := bnd_some hF
 refine zQ (v := i6 r) hf hc en_36 rfl (fun w hc => ref03_CheckSite_ok s_ h_s__Points hc hr) fun a w hf hc => sp 1 hf rfl fun a hf => zT h ?_
 refine zS fun K h => sp 2 hf rfl fun a hf => zT h ?_
 refine zI hf rfl hF ?_ ?_ <;> clear hF <;> intro hF
 ·refine zS fun K h => sp 3 hf rfl fun a hf => zT h ?_
  refine wp_ret ?_
  refine xThenR ?_
  obtain rfl := sj hF
  replace hc := hc.drop k0
  exact zO2 Try.results43 hf rfl rfl ⟨rfl,hc⟩
 ·refine wp_skip ?_
  refine h2 _ _ ?_
  refine zS fun K h => zN hf hc ag_85 m0 rfl fun a w hf hc => ?_
  obtain ⟨r_1,hr_1,hF⟩ := bnd_some hF
  refine zC hf en_85 rfl (ref03_stations_ok s_ h_s__Points hc hr_1) ?_
  rintro _ w ⟨p_1,c_1,rfl,hc⟩
  refine ⟨_,rfl,fun a hf => ?_⟩
  refine sp 1 hf rfl fun a hf => zT h ?_
  refine wp_seq_k fun K7 h7 => zS fun K h => sp 1 hf rfl fun a hf => zP hf rfl (pLenS Try.underlying43 rfl) fun a hf => sp 1 hf rfl fun a hf => zP hf rfl (pLenS Try.underlying83 rfl) fun a hf => sp 1 hf rfl fun a hf => zT h ?_
  refine zI hf rfl hF ?_ ?_ <;> clear hF <;> intro hF
  ·refine zS fun K h => sp 2 hf rfl fun a hf => zT h ?_
   refine wp_ret ?_
   refine xThenR ?_
   obtain rfl := sj hF
   replace hc := (hc.drop k1).drop k0
   exact zO2 Try.results43 hf rfl rfl ⟨rfl,hc⟩
  ·refine wp_skip ?_
   refine h7 _ _ ?_
   refine wp_seq_k fun K10 h10 => zS fun K h => sp 1 hf rfl fun a hf => zT h ?_
   refine wp_block ?_
   obtain ⟨x12,hx12,hF⟩ := bnd_some hF
   let S12 : Int → Act → World → Prop := (fun (zz : Int) a w => Has 91 a [(1,.slice tolls_p tolls.length tolls_c),(2,i6 cost),(3,pq b_1),(9,.slice p_1 r_1.length c_1),(10,i6 zz)] ∧ Ctx G (.row p_1 c_1 (r_1.map enc_ref03_Point) 143 3::.box b_1 [i6 s_.Left,i6 s_.Right,i6 s_.Gap,i6 s_.Step_,.slice s__Points_p s_.Points.length s__Points_c] 85::Lf) w)
   have hr12 : ∀ (zz : Int) a w,x12 = .go zz → S12 zz a w → K10 a w := by
    rintro i_1 a w rfl ⟨hf,hc⟩
    replace hF := exK_go hF
    refine h10 _ _ ?_
    refine wp_seq_k fun K13 h13 => zS fun K h => sp 1 hf rfl fun a hf => zQ (v := .bool (ref03_outside cost 0 1000000000)) hf hc en_78 rfl (fun w hc => ref03_outside_ok cost 0 1000000000 hc rfl) fun a w hf hc => zT h ?_
    refine zI hf rfl hF ?_ ?_ <;> clear hF <;> intro hF
    ·refine zS fun K h => sp 2 hf rfl fun a hf => zT h ?_
     refine wp_ret ?_
     refine xThenR ?_
     obtain rfl := sj hF
     replace hc := (hc.drop k1).drop k0
     exact zO2 Try.results43 hf rfl rfl ⟨rfl,hc⟩
    ·refine wp_skip ?_
     refine h13 _ _ ?_
     refine wp_seq_k fun K16 h16 => zS fun K h => sp 1 hf rfl fun a hf => zT h ?_
     refine wp_block ?_
     obtain ⟨x18,hx18,hF⟩ := bnd_some hF
     let S18 : Int → Act → World → Prop := (fun (zz : Int) a w => ∃ (p_2 : Option Addr) (c_2 : Nat),Has 91 a [(1,.slice tolls_p tolls.length tolls_c),(2,i6 cost),(3,pq b_1),(9,.slice p_2 r_1.length c_2),(11,i6 zz)] ∧ Ctx G (.row p_2 c_2 (r_1.map enc_ref03_Point) 143 3::.box b_1 [i6 s_.Left,i6 s_.Right,i6 s_.Gap,i6 s_.Step_,.slice s__Points_p s_.Points.length s__Points_c] 85::Lf) w)
     have hr18 : ∀ (zz : Int) a w,x18 = .go zz → S18 zz a w → K16 a w := by
      rintro a_1 a w rfl ⟨p_2,c_2,hf,hc⟩
      replace hF := exK_go hF
      refine h16 _ _ ?_
      refine wp_seq_k fun K19 h19 => ?_
      obtain ⟨e_1,he_1,hF⟩ := bnd_some hF
      obtain ⟨b_2,o,qa,qp⟩ := h_tolls.atm he_1
      obtain ⟨e_2,he_2,hF⟩ := bnd_some hF
      obtain ⟨b_3,o_1,qa_1,qp_1⟩ := h_tolls.atm he_2
      refine cQ hc follows_mx (by kernel_rfl) ?_
      refine qE hf rfl rfl rfl (Pu.ev (pM rfl)) fun a hf => qE hf rfl rfl rfl (Pu.ev (pIA Try.underlying43 sz_3 rfl rfl qa)) fun a hf => qE hf rfl rfl rfl (eLd1 sc_3 rfl (cell_pc (j := 0) qp rfl)) fun a hf => qE hf rfl rfl rfl (Pu.ev (pM rfl)) fun a hf => qE hf rfl rfl rfl (Pu.ev (pAdd rfl rfl)) fun a hf => qE hf rfl rfl rfl (Pu.ev (pM rfl)) fun a hf => qE hf rfl rfl rfl (Pu.ev (pM rfl)) fun a hf => qE hf rfl rfl rfl (Pu.ev (pLenS Try.underlying83 rfl)) fun a hf => qE hf rfl rfl rfl (Pu.ev (pSub rfl rfl)) fun a hf => qE hf rfl rfl rfl (Pu.ev (pIA Try.underlying43 sz_3 rfl rfl qa_1)) fun a hf => qE hf rfl rfl rfl (eLd1 sc_3 rfl (cell_pc (j := 0) qp_1 rfl)) fun a hf => qE hf rfl rfl rfl (Pu.ev (pLe rfl rfl)) fun a hf => qE hf rfl rfl rfl (Pu.ev (pA rfl)) fun a hf => ?_
      refine qE hf rfl rfl rfl (Pu.ev (pA rfl)) fun a hf => ?_
      intro w hc
      refine h19 _ _ ?_
      refine wp_ret ?_
      obtain rfl := sj hF
      replace hc := (hc.drop k1).drop k0
      exact zO2 Try.results43 hf rfl rfl ⟨rfl,hc⟩
     have ho18 : ∀ r,x18 = .out r → r = res := by
      rintro r rfl
      exact sj hF
     refine cLoop N (loopW (S := S18) (x := x18) ?_ N 0 _ _ ⟨p_1,c_1,hf.kp rfl,hc⟩ hx18)
     clear hF hf hc
     rintro a_1 st18 a w KB18 ⟨p_2,c_2,hf,hc⟩ hF hfin18 hK18
     unfold ref03_Proves_b18 at hF
     refine wp_seq_k fun K20 h20 => zS fun K h => sp 2 hf rfl fun a hf => zP hf rfl (pLenS Try.underlying83 rfl) fun a hf => sp 1 hf rfl fun a hf => zT h ?_
     refine zI hf rfl hF ?_ ?_ <;> clear hF <;> intro hF
     ·refine wp_skip ?_
      refine h20 _ _ ?_
      refine wp_seq_k fun K22 h22 => wp_block ?_
      refine zS fun K h => sp 3 hf rfl fun a hf => zT h ?_
      refine wp_thenK fun K24 h24 => wp_block ?_
      obtain ⟨x25,hx25,hF⟩ := bnd_some hF
      let S25 : Int → Act → World → Prop := (fun (zz : Int) a w => ∃ (p_3 : Option Addr) (c_3 : Nat),Has 91 a [(1,.slice tolls_p tolls.length tolls_c),(2,i6 cost),(3,pq b_1),(9,.slice p_3 r_1.length c_3),(11,i6 a_1),(12,i6 zz)] ∧ Ctx G (.row p_3 c_3 (r_1.map enc_ref03_Point) 143 3::.box b_1 [i6 s_.Left,i6 s_.Right,i6 s_.Gap,i6 s_.Step_,.slice s__Points_p s_.Points.length s__Points_c] 85::Lf) w)
      have hr25 : ∀ (zz : Int) a w,x25 = .go zz → S25 zz a w → K24 a w := by
       rintro b_4 a w rfl ⟨p_3,c_3,hf,hc⟩
       replace hF := exK_go hF
       refine h24 _ _ ?_
       refine h22 _ _ ?_
       refine cReg ?_
       refine sp 3 hf rfl fun a hf => cNil ?_
       exact hK18 (W (a_1 + 1)) _ _ (sj hF).symm ⟨p_3,c_3,hf.kp rfl,hc⟩
      have ho25 : ∀ r,x25 = .out r → r = st18 := by
       rintro r rfl
       exact sj hF
      refine cLoop N (loopW (S := S25) (x := x25) ?_ N (W (a_1 + 1)) _ _ ⟨p_2,c_2,hf.kp rfl,hc⟩ hx25)
      clear hF hf hc
      rintro b_4 st25 a w KB25 ⟨p_3,c_3,hf,hc⟩ hF hfin25 hK25
      unfold ref03_Proves_b25 at hF
      refine wp_seq_k fun K26 h26 => zS fun K h => sp 2 hf rfl fun a hf => zP hf rfl (pLenS Try.underlying83 rfl) fun a hf => sp 1 hf rfl fun a hf => zT h ?_
      refine zI hf rfl hF ?_ ?_ <;> clear hF <;> intro hF
      ·refine wp_skip ?_
       refine h26 _ _ ?_
       refine wp_seq_k fun K28 h28 => wp_block ?_
       refine wp_seq_k fun K29 h29 => ?_
       obtain ⟨e_3,he_3,hF⟩ := bnd_some hF
       obtain ⟨g,rfl,qa_2,qr⟩ := row_atm hc m0 he_3
       obtain ⟨e_4,he_4,hF⟩ := bnd_some hF
       obtain ⟨qa_3,qr_1⟩ := row_atk hc m0 he_4
       obtain ⟨r_2,hr_2,hF⟩ := bnd_some hF
       obtain ⟨t_1,ht_1,hF⟩ := bnd_some hF
       refine cQ hc follows_mx (by kernel_rfl) ?_
       refine qE hf rfl rfl rfl (eLdN (vs := [i6 s_.Left,i6 s_.Right,i6 s_.Gap,i6 s_.Step_,.slice s__Points_p s_.Points.length s__Points_c]) ag_85 rfl rfl (cells_box (n := 5) m1 rfl)) fun a hf => qE hf rfl rfl rfl (Pu.ev (pM rfl)) fun a hf => qE hf rfl rfl rfl (Pu.ev (pM rfl)) fun a hf => qE hf rfl rfl rfl (Pu.ev (pIA Try.underlying83 sz_143 rfl rfl qa_2)) fun a hf => qE hf rfl rfl rfl (eLdN (vs := [i6 e_3.At,i6 e_3.Depth,i6 e_3.Cost]) ag_143 rfl rfl (cells_rw (sz := 3) (i := a_1.toNat) m0 qr (n := 3) (o' := 0) rfl)) fun a hf => qE hf rfl rfl rfl (Pu.ev (pM rfl)) fun a hf => qE hf rfl rfl rfl (Pu.ev (pM rfl)) fun a hf => qE hf rfl rfl rfl (Pu.ev (pIA Try.underlying83 sz_143 rfl rfl qa_3)) fun a hf => qE hf rfl rfl rfl (eLdN (vs := [i6 e_4.At,i6 e_4.Depth,i6 e_4.Cost]) ag_143 rfl rfl (cells_rw (sz := 3) (i := b_4.toNat) m0 qr_1 (n := 3) (o' := 0) rfl)) fun a hf => qE hf rfl rfl rfl (eC (v := .bool r_2) (vs := [.agg #[i6 s_.Left,i6 s_.Right,i6 s_.Gap,i6 s_.Step_,.slice s__Points_p s_.Points.length s__Points_c],.agg #[i6 e_3.At,i6 e_3.Depth,i6 e_3.Cost],.agg #[i6 e_4.At,i6 e_4.Depth,i6 e_4.Cost]]) (caps := []) en_86 rfl rfl rfl rfl (fun w hc => ref03_goes_ok s_ e_3 e_4 h_s__Points hc hr_2)) fun a hf => qE hf rfl rfl rfl (Pu.ev (pM rfl)) fun a hf => qCut 16 (fun a => Has 91 a [(1,.slice tolls_p tolls.length tolls_c),(2,i6 cost),(3,pq b_1),(9,.slice (some ⟨g,0,none⟩) r_1.length c_3),(11,i6 a_1),(12,i6 b_4),(52,.agg #[i6 s_.Left,i6 s_.Right,i6 s_.Gap,i6 s_.Step_,.slice s__Points_p s_.Points.length s__Points_c]),(53,.slice (some ⟨g,0,none⟩) r_1.length c_3),(54,i6 a_1),(55,.pointer (some ⟨g,a_1.toNat * 3,none⟩)),(56,.agg #[i6 e_3.At,i6 e_3.Depth,i6 e_3.Cost]),(57,.slice (some ⟨g,0,none⟩) r_1.length c_3),(58,i6 b_4),(59,.pointer (some ⟨g,b_4.toNat * 3,none⟩)),(60,.agg #[i6 e_4.At,i6 e_4.Depth,i6 e_4.Cost]),(61,.bool r_2),(62,.bool r_2),(78,.bool t_1)]) ?_ ?_
       ·cases hb : r_2
        ·rw [hb] at hf
         have hF := condF hb ht_1
         obtain rfl := sj hF
         refine qS hf rfl rfl rfl fun a hf => qS hf rfl rfl rfl fun a hf => qS hf rfl rfl rfl fun a hf => qS hf rfl rfl rfl fun a hf => qS hf rfl rfl rfl fun a hf => qS hf rfl rfl rfl fun a hf => qS hf rfl rfl rfl fun a hf => qS hf rfl rfl rfl fun a hf => qS hf rfl rfl rfl fun a hf => qS hf rfl rfl rfl fun a hf => qS hf rfl rfl rfl fun a hf => qS hf rfl rfl rfl fun a hf => qS hf rfl rfl rfl fun a hf => ?_
         refine qS hf rfl rfl rfl fun a hf => qS hf rfl rfl rfl fun a hf => qE hf rfl rfl rfl (Pu.ev (pPf rfl rfl)) fun a hf => qNil (hf.kp rfl)
        ·rw [hb] at hf
         have hF := condT hb ht_1
         obtain ⟨e_5,he_5,hF⟩ := bnd_some hF
         obtain ⟨b_5,o_2,qa_4,qp_2⟩ := h_tolls.atm he_5
         obtain ⟨e_6,he_6,hF⟩ := bnd_some hF
         obtain ⟨qa_5,qr_2⟩ := row_atk hc m0 he_6
         obtain ⟨e_7,he_7,hF⟩ := bnd_some hF
         obtain ⟨b_6,o_3,qa_6,qp_3⟩ := h_tolls.atm he_7
         refine qE hf rfl rfl rfl (Pu.ev (pM rfl)) fun a hf => qE hf rfl rfl rfl (Pu.ev (pM rfl)) fun a hf => qE hf rfl rfl rfl (Pu.ev (pIA Try.underlying43 sz_3 rfl rfl qa_4)) fun a hf => qE hf rfl rfl rfl (eLd1 sc_3 rfl (cell_pc (j := 0) qp_2 rfl)) fun a hf => qE hf rfl rfl rfl (Pu.ev (pM rfl)) fun a hf => qE hf rfl rfl rfl (Pu.ev (pM rfl)) fun a hf => qE hf rfl rfl rfl (Pu.ev (pIA Try.underlying83 sz_143 rfl rfl qa_5)) fun a hf => qE hf rfl rfl rfl (Pu.ev (pFA fa_143_2 rfl)) fun a hf => qE hf rfl rfl rfl (eLd1 sc_3 rfl (cell_row (sz := 3) (i := b_4.toNat) (j := 2) m0 qr_2 rfl)) fun a hf => qE hf rfl rfl rfl (Pu.ev (pAdd rfl rfl)) fun a hf => qE hf rfl rfl rfl (Pu.ev (pM rfl)) fun a hf => qE hf rfl rfl rfl (Pu.ev (pM rfl)) fun a hf => qE hf rfl rfl rfl (Pu.ev (pIA Try.underlying43 sz_3 rfl rfl qa_6)) fun a hf => ?_
         refine qE hf rfl rfl rfl (eLd1 sc_3 rfl (cell_pc (j := 0) qp_3 rfl)) fun a hf => qE hf rfl rfl rfl (Pu.ev (pLt rfl rfl)) fun a hf => qE hf rfl rfl rfl (Pu.ev (pPt rfl rfl)) fun a hf => ?_
         obtain rfl := sj hF
         exact qNil (hf.kp rfl)
       intro a hf
       intro w hc
       refine h29 _ _ ?_
       refine zI hf rfl hF ?_ ?_ <;> clear hF <;> intro hF
       ·refine zS fun K h => sp 2 hf rfl fun a hf => zT h ?_
        refine wp_ret ?_
        refine xBlkR ?_
        refine xThenR ?_
        refine xThenR ?_
        have he := sj hF
        rw [← he] at hfin25
        replace hF := ho25 _ hfin25
        refine xBlkR ?_
        refine xThenR ?_
        refine xBlkR ?_
        refine xThenR ?_
        refine xThenR ?_
        have he := hF
        rw [← he] at hfin18
        replace hF := ho18 _ hfin18
        refine xBlkR ?_
        refine xThenR ?_
        obtain rfl := hF
        replace hc := (hc.drop k1).drop k0
        exact zO2 Try.results43 hf rfl rfl ⟨rfl,hc⟩
       ·refine wp_skip ?_
        refine h28 _ _ ?_
        refine cReg ?_
        refine sp 3 hf rfl fun a hf => cNil ?_
        exact hK25 (W (b_4 + 1)) _ _ (sj hF).symm ⟨(some ⟨g,0,none⟩),c_3,hf.kp rfl,hc⟩
      ·refine wp_exit ?_
       refine xThen ?_
       refine xThen ?_
       have he := sj hF
       rw [← he] at hfin25
       refine cHit ?_
       exact hr25 _ _ _ hfin25 ⟨p_3,c_3,hf.kp rfl,hc⟩
     ·refine wp_exit ?_
      refine xThen ?_
      refine xThen ?_
      have he := sj hF
      rw [← he] at hfin18
      refine cHit ?_
      exact hr18 _ _ _ hfin18 ⟨p_2,c_2,hf.kp rfl,hc⟩
   have ho12 : ∀ r,x12 = .out r → r = res := by
    rintro r rfl
    exact sj hF
   refine cLoop N (loopW (S := S12) (x := x12) ?_ N 0 _ _ ⟨hf.kp rfl,hc⟩ hx12)
   clear hF hf hc
   rintro i_1 st12 a w KB12 ⟨hf,hc⟩ hF hfin12 hK12
   unfold ref03_Proves_b12 at hF
   refine wp_seq_k fun K31 h31 => zS fun K h => sp 2 hf rfl fun a hf => zP hf rfl (pLenS Try.underlying43 rfl) fun a hf => sp 1 hf rfl fun a hf => zT h ?_
   refine zI hf rfl hF ?_ ?_ <;> clear hF <;> intro hF
   ·refine wp_skip ?_
    refine h31 _ _ ?_
    refine wp_seq_k fun K33 h33 => wp_block ?_
    refine zS fun K h => sp 2 hf rfl fun a hf => ?_
    obtain ⟨e_8,he_8,hF⟩ := bnd_some hF
    obtain ⟨b_7,o_4,qa_7,qp_4⟩ := h_tolls.atm he_8
    refine zP hf rfl (pIA Try.underlying43 sz_3 rfl rfl qa_7) fun a hf => zE hf hc rfl (eLd1 sc_3 rfl (cell_pc (j := 0) qp_4 rfl)) fun a w hf hc => zQ (v := .bool (ref03_outside e_8 (-1000000000) 1000000000)) hf hc en_78 rfl (fun w hc => ref03_outside_ok e_8 (-1000000000) 1000000000 hc rfl) fun a w hf hc => zT h ?_
    refine zI hf rfl hF ?_ ?_ <;> clear hF <;> intro hF
    ·refine zS fun K h => sp 2 hf rfl fun a hf => zT h ?_
     refine wp_ret ?_
     refine xBlkR ?_
     refine xThenR ?_
     refine xThenR ?_
     have he := sj hF
     rw [← he] at hfin12
     replace hF := ho12 _ hfin12
     refine xBlkR ?_
     refine xThenR ?_
     obtain rfl := hF
     replace hc := (hc.drop k1).drop k0
     exact zO2 Try.results43 hf rfl rfl ⟨rfl,hc⟩
    ·refine wp_skip ?_
     refine h33 _ _ ?_
     refine cReg ?_
     refine sp 3 hf rfl fun a hf => cNil ?_
     exact hK12 (W (i_1 + 1)) _ _ (sj hF).symm ⟨hf.kp rfl,hc⟩
   ·refine wp_exit ?_
    refine xThen ?_
    refine xThen ?_
    have he := sj hF
    rw [← he] at hfin12
    refine cHit ?_
    exact hr12 _ _ _ hfin12 ⟨hf.kp rfl,hc⟩

def kit_Same_gauge_Point_b7 (N : Nat) (a_ : List gauge_Point) (b_ : List gauge_Point) (i_1 : Int) : Option (Step (Int) (Bool)) :=
 cond (decide (i_1 < ((a_.length : Nat) : Int)))
 (Option.bind (getI a_ i_1) fun e_1 =>
 Option.bind (getI b_ i_1) fun e_2 =>
 cond (!(e_1.At == e_2.At && e_1.Depth == e_2.Depth && e_1.Cost == e_2.Cost))
 (some (.ret false))
 (some (.cont (W (i_1 + 1)))))
 (some (.brk i_1))
def kit_Same_gauge_Point (N : Nat) (a_ : List gauge_Point) (b_ : List gauge_Point) : Option (Bool) :=
 cond (((a_.length : Nat) : Int) != ((b_.length : Nat) : Int))
 (some false)
 (Option.bind (loopO (fun s7 => kit_Same_gauge_Point_b7 N a_ b_ s7) N 0) fun x7 =>
 exK x7 (fun s7 => some true) some)
theorem kit_Same_gauge_Point_ok {N : Nat} {G : Pers} {Lf : List Ent} {w : World} (a_ : List gauge_Point) (b_ : List gauge_Point) {a__p : Option Addr} {a__c : Nat} {b__p : Option Addr} {b__c : Nat} (h_a_ : Rd G 3 a__p a__c (a_.map enc_gauge_Point)) (h_b_ : Rd G 3 b__p b__c (b_.map enc_gauge_Point)) (hc : Ctx G (Lf) w) {res : Bool} (hF : kit_Same_gauge_Point N a_ b_ = some res) : Calls Try.prog 89 #[.slice a__p a_.length a__c,.slice b__p b_.length b__c] w (fun e w => e = .returned (.bool res) ∧ Ctx G (Lf) w) := by
 unfold kit_Same_gauge_Point at hF
 refine fnIn Try.func89 rfl Try.ntmps89 rfl fun a hf => zS fun K h => sp 1 hf rfl fun a hf => zT h ?_
 refine wp_seq_k fun K2 h2 => zS fun K h => sp 1 hf rfl fun a hf => zP hf rfl (pLenS Try.underlying53 rfl) fun a hf => sp 1 hf rfl fun a hf => zP hf rfl (pLenS Try.underlying53 rfl) fun a hf => sp 1 hf rfl fun a hf => zT h ?_
 refine zI hf rfl hF ?_ ?_ <;> clear hF <;> intro hF
 ·refine zS fun K h => sp 1 hf rfl fun a hf => zT h ?_
  refine wp_ret ?_
  refine xThenR ?_
  obtain rfl := sj hF
  exact zO1 Try.results89 hf rfl ⟨rfl,hc⟩
 ·refine wp_skip ?_
  refine h2 _ _ ?_
  refine wp_seq_k fun K5 h5 => zS fun K h => sp 1 hf rfl fun a hf => zT h ?_
  refine wp_block ?_
  obtain ⟨x7,hx7,hF⟩ := bnd_some hF
  let S7 : Int → Act → World → Prop := (fun (zz : Int) a w => Has 26 a [(0,.slice a__p a_.length a__c),(1,.slice b__p b_.length b__c),(5,i6 zz)] ∧ Ctx G (Lf) w)
  have hr7 : ∀ (zz : Int) a w,x7 = .go zz → S7 zz a w → K5 a w := by
   rintro i_1 a w rfl ⟨hf,hc⟩
   replace hF := exK_go hF
   refine h5 _ _ ?_
   refine zS fun K h => sp 1 hf rfl fun a hf => zT h ?_
   refine wp_ret ?_
   obtain rfl := sj hF
   exact zO1 Try.results89 hf rfl ⟨rfl,hc⟩
  have ho7 : ∀ r,x7 = .out r → r = res := by
   rintro r rfl
   exact sj hF
  refine cLoop N (loopW (S := S7) (x := x7) ?_ N 0 _ _ ⟨hf.kp rfl,hc⟩ hx7)
  clear hF hf hc
  rintro i_1 st7 a w KB7 ⟨hf,hc⟩ hF hfin7 hK7
  unfold kit_Same_gauge_Point_b7 at hF
  refine wp_seq_k fun K9 h9 => zS fun K h => sp 2 hf rfl fun a hf => zP hf rfl (pLenS Try.underlying53 rfl) fun a hf => sp 1 hf rfl fun a hf => zT h ?_
  refine zI hf rfl hF ?_ ?_ <;> clear hF <;> intro hF
  ·refine wp_skip ?_
   refine h9 _ _ ?_
   refine wp_seq_k fun K11 h11 => wp_block ?_
   refine wp_seq_k fun K12 h12 => ?_
   obtain ⟨e_1,he_1,hF⟩ := bnd_some hF
   obtain ⟨b_1,o,qa,qp⟩ := h_a_.atm he_1
   obtain ⟨e_2,he_2,hF⟩ := bnd_some hF
   obtain ⟨b_2,o_1,qa_1,qp_1⟩ := h_b_.atm he_2
   refine cQ hc follows_mx (by kernel_rfl) ?_
   refine qE hf rfl rfl rfl (Pu.ev (pM rfl)) fun a hf => qE hf rfl rfl rfl (Pu.ev (pM rfl)) fun a hf => qE hf rfl rfl rfl (Pu.ev (pIA Try.underlying53 sz_64 rfl rfl qa)) fun a hf => qE hf rfl rfl rfl (eLdN (vs := [i6 e_1.At,i6 e_1.Depth,i6 e_1.Cost]) ag_64 rfl rfl (cells_pc qp (n := 3) (o' := 0) rfl)) fun a hf => qE hf rfl rfl rfl (Pu.ev (pM rfl)) fun a hf => qE hf rfl rfl rfl (Pu.ev (pM rfl)) fun a hf => qE hf rfl rfl rfl (Pu.ev (pIA Try.underlying53 sz_64 rfl rfl qa_1)) fun a hf => qE hf rfl rfl rfl (eLdN (vs := [i6 e_2.At,i6 e_2.Depth,i6 e_2.Cost]) ag_64 rfl rfl (cells_pc qp_1 (n := 3) (o' := 0) rfl)) fun a hf => qE hf rfl rfl rfl (Pu.ev (pNeA ge_64 rfl rfl (eqs_64 _ _ _ _ _ _))) fun a hf => ?_
   intro w hc
   refine h12 _ _ ?_
   refine zI hf rfl hF ?_ ?_ <;> clear hF <;> intro hF
   ·refine zS fun K h => sp 1 hf rfl fun a hf => zT h ?_
    refine wp_ret ?_
    refine xBlkR ?_
    refine xThenR ?_
    refine xThenR ?_
    have he := sj hF
    rw [← he] at hfin7
    replace hF := ho7 _ hfin7
    refine xBlkR ?_
    refine xThenR ?_
    obtain rfl := hF
    exact zO1 Try.results89 hf rfl ⟨rfl,hc⟩
   ·refine wp_skip ?_
    refine h11 _ _ ?_
    refine cReg ?_
    refine sp 3 hf rfl fun a hf => cNil ?_
    exact hK7 (W (i_1 + 1)) _ _ (sj hF).symm ⟨hf.kp rfl,hc⟩
  ·refine wp_exit ?_
   refine xThen ?_
   refine xThen ?_
   have he := sj hF
   rw [← he] at hfin7
   refine cHit ?_
   exact hr7 _ _ _ hfin7 ⟨hf.kp rfl,hc⟩

def law03_sameSite (N : Nat) (a_ : gauge_Site) (b_ : gauge_Site) : Option (Bool) :=
 Option.bind (cond ((((a_.Left == b_.Left) && (a_.Right == b_.Right)) && (a_.Gap == b_.Gap)) && (a_.Step_ == b_.Step_)) (Option.bind (kit_Same_gauge_Point N a_.Points b_.Points) fun r =>
 some r) (some false)) fun t_1 =>
 some t_1
theorem law03_sameSite_ok {N : Nat} {G : Pers} {Lf : List Ent} {w : World} (a_ : gauge_Site) (b_ : gauge_Site) {a__Points_p : Option Addr} {a__Points_c : Nat} {b__Points_p : Option Addr} {b__Points_c : Nat} (h_a__Points : Rd G 3 a__Points_p a__Points_c (a_.Points.map enc_gauge_Point)) (h_b__Points : Rd G 3 b__Points_p b__Points_c (b_.Points.map enc_gauge_Point)) (hc : Ctx G (Lf) w) {res : Bool} (hF : law03_sameSite N a_ b_ = some res) : Calls Try.prog 45 #[.agg #[i6 a_.Left,i6 a_.Right,i6 a_.Gap,i6 a_.Step_,.slice a__Points_p a_.Points.length a__Points_c],.agg #[i6 b_.Left,i6 b_.Right,i6 b_.Gap,i6 b_.Step_,.slice b__Points_p b_.Points.length b__Points_c]] w (fun e w => e = .returned (.bool res) ∧ Ctx G (Lf) w) := by
 unfold law03_sameSite at hF
 refine fnIn Try.func45 rfl Try.ntmps45 rfl fun a hf => zS fun K h => zB hf hc rfl fun b_1 a w hf hc => zB hf hc rfl fun b_2 a w hf hc => sp 1 hf rfl fun a hf => zT h ?_
 refine zS fun K h => zP hf rfl (pFA fa_55_0 rfl) fun a hf => zL hf hc sc_3 m1 rfl fun a w hf hc => zP hf rfl (pFA fa_55_0 rfl) fun a hf => zL hf hc sc_3 m0 rfl fun a w hf hc => sp 2 hf rfl fun a hf => stCc 6 (fun a => Has 38 a [(2,pq b_1),(3,pq b_2),(4,.bool false),(5,pq b_1),(6,i6 a_.Left),(7,pq b_2),(8,i6 b_.Left),(9,.bool (a_.Left == b_.Left)),(10,.bool (a_.Left == b_.Left)),(16,.bool ((a_.Left == b_.Left) && (a_.Right == b_.Right)))]) hc ?_ ?_
 ·cases hb : (a_.Left == b_.Left)
  ·rw [hb] at hf
   refine stS hf rfl rfl rfl fun a hf => stS hf rfl rfl rfl fun a hf => stS hf rfl rfl rfl fun a hf => stS hf rfl rfl rfl fun a hf => stS hf rfl rfl rfl fun a hf => sp 1 hf rfl fun a hf => cNil ⟨hf.kp rfl,hc⟩
  ·rw [hb] at hf
   refine zP hf rfl (pFA fa_55_1 rfl) fun a hf => zL hf hc sc_3 m1 rfl fun a w hf hc => zP hf rfl (pFA fa_55_1 rfl) fun a hf => zL hf hc sc_3 m0 rfl fun a w hf hc => sp 2 hf rfl fun a hf => cNil ⟨hf.kp rfl,hc⟩
 intro a w ⟨hf,hc⟩
 refine sp 1 hf rfl fun a hf => stCc 6 (fun a => Has 38 a [(2,pq b_1),(3,pq b_2),(4,.bool false),(5,pq b_1),(6,i6 a_.Left),(7,pq b_2),(8,i6 b_.Left),(9,.bool (a_.Left == b_.Left)),(10,.bool (a_.Left == b_.Left)),(16,.bool ((a_.Left == b_.Left) && (a_.Right == b_.Right))),(17,.bool ((a_.Left == b_.Left) && (a_.Right == b_.Right))),(23,.bool (((a_.Left == b_.Left) && (a_.Right == b_.Right)) && (a_.Gap == b_.Gap)))]) hc ?_ ?_
 ·cases hb : ((a_.Left == b_.Left) && (a_.Right == b_.Right))
  ·rw [hb] at hf
   refine stS hf rfl rfl rfl fun a hf => stS hf rfl rfl rfl fun a hf => stS hf rfl rfl rfl fun a hf => stS hf rfl rfl rfl fun a hf => stS hf rfl rfl rfl fun a hf => sp 1 hf rfl fun a hf => cNil ⟨hf.kp rfl,hc⟩
  ·rw [hb] at hf
   refine zP hf rfl (pFA fa_55_2 rfl) fun a hf => zL hf hc sc_3 m1 rfl fun a w hf hc => zP hf rfl (pFA fa_55_2 rfl) fun a hf => zL hf hc sc_3 m0 rfl fun a w hf hc => sp 2 hf rfl fun a hf => cNil ⟨hf.kp rfl,hc⟩
 intro a w ⟨hf,hc⟩
 refine sp 1 hf rfl fun a hf => stCc 6 (fun a => Has 38 a [(2,pq b_1),(3,pq b_2),(4,.bool false),(5,pq b_1),(6,i6 a_.Left),(7,pq b_2),(8,i6 b_.Left),(9,.bool (a_.Left == b_.Left)),(10,.bool (a_.Left == b_.Left)),(16,.bool ((a_.Left == b_.Left) && (a_.Right == b_.Right))),(17,.bool ((a_.Left == b_.Left) && (a_.Right == b_.Right))),(23,.bool (((a_.Left == b_.Left) && (a_.Right == b_.Right)) && (a_.Gap == b_.Gap))),(24,.bool (((a_.Left == b_.Left) && (a_.Right == b_.Right)) && (a_.Gap == b_.Gap))),(30,.bool ((((a_.Left == b_.Left) && (a_.Right == b_.Right)) && (a_.Gap == b_.Gap)) && (a_.Step_ == b_.Step_)))]) hc ?_ ?_
 ·cases hb : (((a_.Left == b_.Left) && (a_.Right == b_.Right)) && (a_.Gap == b_.Gap))
  ·rw [hb] at hf
   refine stS hf rfl rfl rfl fun a hf => stS hf rfl rfl rfl fun a hf => stS hf rfl rfl rfl fun a hf => stS hf rfl rfl rfl fun a hf => stS hf rfl rfl rfl fun a hf => sp 1 hf rfl fun a hf => cNil ⟨hf.kp rfl,hc⟩
  ·rw [hb] at hf
   refine zP hf rfl (pFA fa_55_3 rfl) fun a hf => zL hf hc sc_3 m1 rfl fun a w hf hc => zP hf rfl (pFA fa_55_3 rfl) fun a hf => zL hf hc sc_3 m0 rfl fun a w hf hc => sp 2 hf rfl fun a hf => cNil ⟨hf.kp rfl,hc⟩
 intro a w ⟨hf,hc⟩
 refine sp 1 hf rfl fun a hf => ?_
 obtain ⟨t_1,ht_1,hF⟩ := bnd_some hF
 refine stCc 6 (fun a => Has 38 a [(2,pq b_1),(3,pq b_2),(4,.bool false),(5,pq b_1),(6,i6 a_.Left),(7,pq b_2),(8,i6 b_.Left),(9,.bool (a_.Left == b_.Left)),(10,.bool (a_.Left == b_.Left)),(16,.bool ((a_.Left == b_.Left) && (a_.Right == b_.Right))),(17,.bool ((a_.Left == b_.Left) && (a_.Right == b_.Right))),(23,.bool (((a_.Left == b_.Left) && (a_.Right == b_.Right)) && (a_.Gap == b_.Gap))),(24,.bool (((a_.Left == b_.Left) && (a_.Right == b_.Right)) && (a_.Gap == b_.Gap))),(30,.bool ((((a_.Left == b_.Left) && (a_.Right == b_.Right)) && (a_.Gap == b_.Gap)) && (a_.Step_ == b_.Step_))),(31,.bool ((((a_.Left == b_.Left) && (a_.Right == b_.Right)) && (a_.Gap == b_.Gap)) && (a_.Step_ == b_.Step_))),(37,.bool t_1)]) hc ?_ ?_
 ·cases hb : ((((a_.Left == b_.Left) && (a_.Right == b_.Right)) && (a_.Gap == b_.Gap)) && (a_.Step_ == b_.Step_))
  ·rw [hb] at hf
   have hF := condF hb ht_1
   obtain rfl := sj hF
   refine stS hf rfl rfl rfl fun a hf => stS hf rfl rfl rfl fun a hf => stS hf rfl rfl rfl fun a hf => stS hf rfl rfl rfl fun a hf => stS hf rfl rfl rfl fun a hf => sp 1 hf rfl fun a hf => cNil ⟨hf.kp rfl,hc⟩
  ·rw [hb] at hf
   have hF := condT hb ht_1
   refine zP hf rfl (pFA fa_55_4 rfl) fun a hf => zL hf hc sc_53 m1 rfl fun a w hf hc => zP hf rfl (pFA fa_55_4 rfl) fun a hf => zL hf hc sc_53 m0 rfl fun a w hf hc => ?_
   obtain ⟨r,hr,hF⟩ := bnd_some hF
   refine zQ (v := .bool r) hf hc en_89 rfl (fun w hc => kit_Same_gauge_Point_ok a_.Points b_.Points h_a__Points h_b__Points hc hr) fun a w hf hc => sp 1 hf rfl fun a hf => ?_
   obtain rfl := sj hF
   exact cNil ⟨hf.kp rfl,hc⟩
 intro a w ⟨hf,hc⟩
 refine sp 1 hf rfl fun a hf => zT h ?_
 refine wp_ret ?_
 obtain rfl := sj hF
 replace hc := (hc.drop k1).drop k0
 exact zO1 Try.results45 hf rfl ⟨rfl,hc⟩

def law03_GaugePlans_j24 (N : Nat) (s_ : gauge_Site) (plan : List Int) (tolls : List Int) (cost : Int) (r_1 : gauge_Site) (r_2 : (List Int)) (r_3 : (List Int)) : Option (Bool) :=
 Option.bind (gauge_Proves N r_1 r_3 cost) fun r_15 =>
 Option.bind (law03_Site N s_) fun r_16 =>
 Option.bind (ref03_Proves N r_16 tolls cost) fun r_17 =>
 Option.bind (cond ((r_15.1 == r_17.1) && (r_15.2 == r_17.2)) (Option.bind (law03_sameSite N r_1 s_) fun r_18 =>
 some r_18) (some false)) fun t_1 =>
 Option.bind (cond t_1 (Option.bind (kit_Same_int N r_2 plan) fun r_19 =>
 some r_19) (some false)) fun t_2 =>
 Option.bind (cond t_2 (Option.bind (kit_Same_int N r_3 tolls) fun r_20 =>
 some r_20) (some false)) fun t_3 =>
 Option.bind (cond t_3 (Option.bind (law03_awake N) fun r_21 =>
 some r_21) (some false)) fun t_4 =>
 some t_4
def law03_GaugePlans_j20 (N : Nat) (s_ : gauge_Site) (plan : List Int) (tolls : List Int) (cost : Int) (r_1 : gauge_Site) (r_2 : (List Int)) (r_3 : (List Int)) (r_14 : (List Int) × Int) (m : Int) (w_1 : Int) : Option (Bool) :=
 cond ((r_14.2 != w_1) || ((r_14.2 != 0) && (decide (0 < ((r_14.1.length : Nat) : Int)))))
 (some false)
 (cond (r_14.2 == 0)
 (Option.bind (law03_Site N s_) fun r_22 =>
 Option.bind (ref03_Proves N r_22 r_14.1 m) fun r_23 =>
 cond ((r_23.2 != 0) || (!r_23.1))
 (some false)
 (law03_GaugePlans_j24 N s_ plan tolls cost r_1 r_2 r_3))
 (law03_GaugePlans_j24 N s_ plan tolls cost r_1 r_2 r_3))
def law03_GaugePlans (N : Nat) (s_ : gauge_Site) (plan : List Int) (tolls : List Int) (cost : Int) : Option (Bool) :=
 cond (((decide (35 < ((s_.Points.length : Nat) : Int))) || (decide (40 < ((plan.length : Nat) : Int)))) || (decide (40 < ((tolls.length : Nat) : Int))))
 (Option.bind (law03_awake N) fun r =>
 some r)
 (Option.bind (law03_CopySite N s_) fun r_1 =>
 Option.bind (kit_Copy_int N plan) fun r_2 =>
 Option.bind (kit_Copy_int N tolls) fun r_3 =>
 Option.bind (gauge_CheckSite N r_1) fun r_4 =>
 Option.bind (law03_Site N s_) fun r_5 =>
 Option.bind (ref03_CheckSite N r_5) fun r_6 =>
 cond (r_4 != r_6)
 (some false)
 (Option.bind (gauge_Cost N r_1 r_2) fun r_7 =>
 Option.bind (law03_Site N s_) fun r_8 =>
 Option.bind (ref03_Cost N r_8 plan) fun r_9 =>
 cond ((r_7.1 != r_9.1) || (r_7.2 != r_9.2))
 (some false)
 (Option.bind (gauge_Plan N r_1) fun r_10 =>
 Option.bind (law03_Site N s_) fun r_11 =>
 Option.bind (ref03_Plan N r_11) fun r_12 =>
 Option.bind (kit_Same_int N r_10.1 r_12.1) fun r_13 =>
 cond (((!r_13) || (r_10.2.1 != r_12.2.1)) || (r_10.2.2 != r_12.2.2))
 (some false)
 (Option.bind (gauge_Tolls N r_1) fun r_14 =>
 cond (r_12.2.2 == 5)
 (law03_GaugePlans_j20 N s_ plan tolls cost r_1 r_2 r_3 r_14 1000000000 0)
 (law03_GaugePlans_j20 N s_ plan tolls cost r_1 r_2 r_3 r_14 r_12.2.1 r_12.2.2)))))
theorem law03_GaugePlans_ok {N : Nat} {G : Pers} {Lf : List Ent} {w : World} (s_ : gauge_Site) (plan : List Int) (tolls : List Int) (cost : Int) {s__Points_p : Option Addr} {s__Points_c : Nat} {plan_p : Option Addr} {plan_c : Nat} {tolls_p : Option Addr} {tolls_c : Nat} (h_s__Points : Rd G 3 s__Points_p s__Points_c (s_.Points.map enc_gauge_Point)) (h_plan : Rd G 1 plan_p plan_c (plan.map encI_i64)) (h_tolls : Rd G 1 tolls_p tolls_c (tolls.map encI_i64)) (hc : Ctx G (Lf) w) {res : Bool} (hF : law03_GaugePlans N s_ plan tolls cost = some res) : Calls Try.prog 8 #[.agg #[i6 s_.Left,i6 s_.Right,i6 s_.Gap,i6 s_.Step_,.slice s__Points_p s_.Points.length s__Points_c],.slice plan_p plan.length plan_c,.slice tolls_p tolls.length tolls_c,i6 cost] w (fun e w => e = .returned (.bool res) ∧ Ctx G (Lf) w) := by
 unfold law03_GaugePlans at hF
 refine fnIn Try.func8 rfl Try.ntmps8 rfl fun a hf => zS fun K h => zB hf hc rfl fun b_1 a w hf hc => sp 1 hf rfl fun a hf => zT h ?_
 refine wp_seq_k fun K2 h2 => zS fun K h => zP hf rfl (pFA fa_55_4 rfl) fun a hf => zL hf hc sc_53 m0 rfl fun a w hf hc => zP hf rfl (pLenS Try.underlying53 rfl) fun a hf => sp 2 hf rfl fun a hf => stCc 4 (fun a => Has 174 a [(1,.slice plan_p plan.length plan_c),(2,.slice tolls_p tolls.length tolls_c),(3,i6 cost),(4,pq b_1),(23,.pointer (some ⟨b_1,4,none⟩)),(24,.slice s__Points_p s_.Points.length s__Points_c),(25,i6 ((s_.Points.length : Nat) : Int)),(26,.bool (decide (35 < ((s_.Points.length : Nat) : Int)))),(27,.bool (decide (35 < ((s_.Points.length : Nat) : Int)))),(31,.bool ((decide (35 < ((s_.Points.length : Nat) : Int))) || (decide (40 < ((plan.length : Nat) : Int)))))]) hc ?_ ?_
 ·cases hb : (decide (35 < ((s_.Points.length : Nat) : Int)))
  ·rw [hb] at hf
   refine sp 1 hf rfl fun a hf => zP hf rfl (pLenS Try.underlying43 rfl) fun a hf => sp 2 hf rfl fun a hf => cNil ⟨hf.kp rfl,hc⟩
  ·rw [hb] at hf
   refine stS hf rfl rfl rfl fun a hf => stS hf rfl rfl rfl fun a hf => stS hf rfl rfl rfl fun a hf => sp 1 hf rfl fun a hf => cNil ⟨hf.kp rfl,hc⟩
 intro a w ⟨hf,hc⟩
 refine sp 1 hf rfl fun a hf => stCc 4 (fun a => Has 174 a [(1,.slice plan_p plan.length plan_c),(2,.slice tolls_p tolls.length tolls_c),(3,i6 cost),(4,pq b_1),(23,.pointer (some ⟨b_1,4,none⟩)),(24,.slice s__Points_p s_.Points.length s__Points_c),(25,i6 ((s_.Points.length : Nat) : Int)),(26,.bool (decide (35 < ((s_.Points.length : Nat) : Int)))),(27,.bool (decide (35 < ((s_.Points.length : Nat) : Int)))),(31,.bool ((decide (35 < ((s_.Points.length : Nat) : Int))) || (decide (40 < ((plan.length : Nat) : Int))))),(32,.bool ((decide (35 < ((s_.Points.length : Nat) : Int))) || (decide (40 < ((plan.length : Nat) : Int))))),(36,.bool (((decide (35 < ((s_.Points.length : Nat) : Int))) || (decide (40 < ((plan.length : Nat) : Int)))) || (decide (40 < ((tolls.length : Nat) : Int)))))]) hc ?_ ?_
 ·cases hb : ((decide (35 < ((s_.Points.length : Nat) : Int))) || (decide (40 < ((plan.length : Nat) : Int))))
  ·rw [hb] at hf
   refine sp 1 hf rfl fun a hf => zP hf rfl (pLenS Try.underlying43 rfl) fun a hf => sp 2 hf rfl fun a hf => cNil ⟨hf.kp rfl,hc⟩
  ·rw [hb] at hf
   refine stS hf rfl rfl rfl fun a hf => stS hf rfl rfl rfl fun a hf => stS hf rfl rfl rfl fun a hf => sp 1 hf rfl fun a hf => cNil ⟨hf.kp rfl,hc⟩
 intro a w ⟨hf,hc⟩
 refine zT h ?_
 refine zI hf rfl hF ?_ ?_ <;> clear hF <;> intro hF
 ·refine zS fun K h => ?_
  obtain ⟨r,hr,hF⟩ := bnd_some hF
  refine zQ (v := .bool r) hf hc en_15 rfl (fun w hc => law03_awake_ok hc hr) fun a w hf hc => sp 1 hf rfl fun a hf => zT h ?_
  refine wp_ret ?_
  refine xThenR ?_
  obtain rfl := sj hF
  replace hc := hc.drop k0
  exact zO1 Try.results8 hf rfl ⟨rfl,hc⟩
 ·refine wp_skip ?_
  refine h2 _ _ ?_
  refine zS fun K h => zN hf hc ag_55 m0 rfl fun a w hf hc => ?_
  obtain ⟨r_1,hr_1,hF⟩ := bnd_some hF
  refine zC hf en_24 rfl (law03_CopySite_ok s_ h_s__Points hc hr_1) ?_
  rintro _ w ⟨p_1,c_1,rfl,hc⟩
  refine ⟨_,rfl,fun a hf => ?_⟩
  refine sp 1 hf rfl fun a hf => ?_
  obtain ⟨r_2,hr_2,hF⟩ := bnd_some hF
  refine zC hf en_34 rfl (kit_Copy_int_ok plan h_plan hc hr_2) ?_
  rintro _ w ⟨p_2,c_2,rfl,hc⟩
  refine ⟨_,rfl,fun a hf => ?_⟩
  refine sp 1 hf rfl fun a hf => ?_
  obtain ⟨r_3,hr_3,hF⟩ := bnd_some hF
  refine zC hf en_34 rfl (kit_Copy_int_ok tolls h_tolls hc hr_3) ?_
  rintro _ w ⟨p_3,c_3,rfl,hc⟩
  refine ⟨_,rfl,fun a hf => ?_⟩
  refine zA hf hc zr_55 rfl fun b_2 a w hf hc => zW hf hc sz_55 u0 rfl fun w hc => sp 2 hf rfl fun a hf => zT h ?_
  refine wp_seq_k fun K6 h6 => wp_seq_k fun K7 h7 => ?_
  obtain ⟨r_4,hr_4,hF⟩ := bnd_some hF
  obtain ⟨r_5,hr_5,hF⟩ := bnd_some hF
  obtain ⟨r_6,hr_6,hF⟩ := bnd_some hF
  replace hc := hc.nilRow 0 0
  refine regionE (fun θ => [⟨none,none,1,.slice plan_p plan.length plan_c⟩,⟨none,none,2,.slice tolls_p tolls.length tolls_c⟩,⟨none,none,3,i6 cost⟩,⟨none,none,4,pq b_1⟩,⟨none,none,9,pq b_2⟩,⟨none,none,10,.slice p_2 r_2.length c_2⟩,⟨none,none,11,.slice p_3 r_3.length c_3⟩,⟨some 0,none,44,.agg #[i6 r_1.Left,i6 r_1.Right,i6 r_1.Gap,i6 r_1.Step_,.slice p_1 r_1.Points.length c_1]⟩,⟨some 1,none,45,i6 r_4⟩,⟨some 2,none,46,.agg #[i6 s_.Left,i6 s_.Right,i6 s_.Gap,i6 s_.Step_,.slice s__Points_p s_.Points.length s__Points_c]⟩,⟨some 3,none,47,.agg #[i6 r_5.Left,i6 r_5.Right,i6 r_5.Gap,i6 r_5.Step_,.slice ((θ 24).p) r_5.Points.length ((θ 24).c)]⟩,⟨some 4,none,48,i6 r_6⟩,⟨some 5,none,49,.bool (r_4 != r_6)⟩]) (fun E θ => (bif E 3 then .row ((θ 24).p) ((θ 24).c) (r_5.Points.map enc_ref03_Point) 143 3 else .row none 0 [] 0 0)::.box b_2 [i6 r_1.Left,i6 r_1.Right,i6 r_1.Gap,i6 r_1.Step_,.slice p_1 r_1.Points.length c_1] 55::.row p_3 c_3 (r_3.map encI_i64) 3 1::.row p_2 c_2 (r_2.map encI_i64) 3 1::.row p_1 c_1 (r_1.Points.map enc_gauge_Point) 64 3::.box b_1 [i6 s_.Left,i6 s_.Right,i6 s_.Gap,i6 s_.Step_,.slice s__Points_p s_.Points.length s__Points_c] 55::Lf) [] (fun a w => ∃ (p_5 : Option Addr) (c_5 : Nat),Has 174 a [(1,.slice plan_p plan.length plan_c),(2,.slice tolls_p tolls.length tolls_c),(3,i6 cost),(4,pq b_1),(9,pq b_2),(10,.slice p_2 r_2.length c_2),(11,.slice p_3 r_3.length c_3),(49,.bool (r_4 != r_6))] ∧ Ctx G (.row p_5 c_5 (r_5.Points.map enc_ref03_Point) 143 3::.box b_2 [i6 r_1.Left,i6 r_1.Right,i6 r_1.Gap,i6 r_1.Step_,.slice p_1 r_1.Points.length c_1] 55::.row p_3 c_3 (r_3.map encI_i64) 3 1::.row p_2 c_2 (r_2.map encI_i64) 3 1::.row p_1 c_1 (r_1.Points.map enc_gauge_Point) 64 3::.box b_1 [i6 s_.Left,i6 s_.Right,i6 s_.Gap,i6 s_.Step_,.slice s__Points_p s_.Points.length s__Points_c] 55::Lf) w) follows_mx (by kernel_rfl) (by kernel_rfl) (HasE.of hf ⟨rfl,rfl,rfl,rfl,rfl,rfl,rfl,trivial,trivial,trivial,trivial,trivial,trivial,trivial⟩) hc ⟨?_,?_,?_,?_,?_,?_,trivial⟩ ?_ ?_
  ·intro E θ a w hD hi hp he hc
   have hf := he.h0.mT he 4 rfl
   refine zN hf hc ag_55 m1 rfl fun a w hf hc => zD θ he hi hf 7 rfl rfl rfl hc
  ·intro E θ a w hD hi hp he hc
   have e0 := hp.o 0 rfl
   have hf := he.h0.mP he 7 rfl e0
   refine zQ (v := i6 r_4) hf hc en_35 rfl (fun w hc => by obtain ⟨G1,hle1,hrd1,hc,hth1⟩ := lend hc k4; exact (gauge_CheckSite_ok r_1 hrd1 hc hr_4).mono fun e w h => ⟨h.1,((hth1 _ _ h.2).unpick k4)⟩) fun a w hf hc => zD θ he hi hf 8 rfl rfl rfl hc
  ·intro E θ a w hD hi hp he hc
   have hf := he.h0.mT he 3 rfl
   refine zN hf hc ag_55 m5 rfl fun a w hf hc => zD θ he hi hf 9 rfl rfl rfl hc
  ·intro E θ a w hD hi hp he hc
   have e2 := hp.o 2 rfl
   try dsimp only at hc
   rw [hi] at hc
   have hf := he.h0.mP he 9 rfl e2
   refine zC hf en_37 rfl (law03_Site_ok s_ h_s__Points hc hr_5) ?_
   rintro _ w ⟨p_4,c_4,rfl,hc⟩
   refine ⟨_,rfl,fun a hf => ?_⟩
   refine cNil ?_
   refine xThenN ?_
   intro ds u hau
   replace hc := hc.drop k1
   refine ⟨(setT θ 24 ⟨0,p_4,c_4,(fun _ => (none,0))⟩),he.put hi hau hf rfl [] trivial ⟨qq,qq,qq,qq,qq,qq,qq,qq,qq,qq,qq,qq,qq,trivial⟩,?_⟩
   try dsimp only
   rw [updE_self E 3]
   exact hc
  ·intro E θ a w hD hi hp he hc
   have e3 := hp.o 3 rfl
   try dsimp only at hc
   rw [e3] at hc
   have hf := he.h0.mP he 10 rfl e3
   refine zQ (v := i6 r_6) hf hc en_36 rfl (fun w hc => by obtain ⟨G1,hle1,hrd1,hc,hth1⟩ := lend hc k0; exact (ref03_CheckSite_ok r_5 hrd1 hc hr_6).mono fun e w h => ⟨h.1,((hth1 _ _ h.2).unpick k0)⟩) fun a w hf hc => zD θ he hi hf 11 rfl rfl rfl ?_
   try dsimp only
   rw [updE_tru 4 e3]
   exact hc
  ·intro E θ a w hD hi hp he hc
   have e1 := hp.o 1 rfl
   have e4 := hp.o 4 rfl
   have hf := (he.h0.mP he 8 rfl e1).mP he 11 rfl e4
   refine sp 1 hf rfl fun a hf => zD θ he hi hf 12 rfl rfl rfl hc
  ·intro E θ a w hall he hc
   have hf := he.h0
   have e3 := hall 3 rfl
   have e5 := hall 5 rfl
   replace hf := hf.more he 12 rfl (onP e5)
   replace hf := hf.more he 6 rfl (onT)
   replace hf := hf.more he 5 rfl (onT)
   replace hf := hf.more he 4 rfl (onT)
   replace hf := hf.more he 3 rfl (onT)
   replace hf := hf.more he 2 rfl (onT)
   replace hf := hf.more he 1 rfl (onT)
   replace hf := hf.more he 0 rfl (onT)
   try dsimp only at hc
   rw [e3] at hc
   exact ⟨(θ 24).p,(θ 24).c,hf.kp rfl,hc⟩
  rintro a w ⟨p_5,c_5,hf,hc⟩
  refine h7 _ _ ?_
  refine zI hf rfl hF ?_ ?_ <;> clear hF <;> intro hF
  ·refine zS fun K h => sp 1 hf rfl fun a hf => zT h ?_
   refine wp_ret ?_
   refine xThenR ?_
   obtain rfl := sj hF
   replace hc := (((((hc.drop k5).drop k4).drop k3).drop k2).drop k1).drop k0
   exact zO1 Try.results8 hf rfl ⟨rfl,hc⟩
  ·refine wp_skip ?_
   refine h6 _ _ ?_
   refine zS fun K h => zN hf hc ag_55 m1 rfl fun a w hf hc => sp 1 hf rfl fun a hf => ?_
   obtain ⟨r_7,hr_7,hF⟩ := bnd_some hF
   refine zQ (v := .tuple #[i6 r_7.1,i6 r_7.2]) hf hc en_38 rfl (fun w hc => by obtain ⟨G1,hle1,hrd1,hc,hth1⟩ := lend hc k4; obtain ⟨G2,hle2,hrd2,hc,hth2⟩ := lend hc k3; exact (gauge_Cost_ok r_1 r_2 (hrd1.mono hle2) hrd2 hc hr_7).mono fun e w h => ⟨h.1,((hth1 _ _ ((hth2 _ _ h.2).unpick k3)).unpick k4)⟩) fun a w hf hc => sp 5 hf rfl fun a hf => zT h ?_
   refine zS fun K h => zN hf hc ag_55 m5 rfl fun a w hf hc => ?_
   obtain ⟨r_8,hr_8,hF⟩ := bnd_some hF
   refine zC hf en_37 rfl (law03_Site_ok s_ h_s__Points hc hr_8) ?_
   rintro _ w ⟨p_6,c_6,rfl,hc⟩
   refine ⟨_,rfl,fun a hf => ?_⟩
   refine sp 1 hf rfl fun a hf => ?_
   obtain ⟨r_9,hr_9,hF⟩ := bnd_some hF
   refine zQ (v := .tuple #[i6 r_9.1,i6 r_9.2]) hf hc en_39 rfl (fun w hc => by obtain ⟨G1,hle1,hrd1,hc,hth1⟩ := lend hc k0; exact (ref03_Cost_ok r_8 plan hrd1 (h_plan.mono hle1) hc hr_9).mono fun e w h => ⟨h.1,((hth1 _ _ h.2).unpick k0)⟩) fun a w hf hc => sp 5 hf rfl fun a hf => zT h ?_
   refine wp_seq_k fun K11 h11 => zS fun K h => sp 4 hf rfl fun a hf => stCc 4 (fun a => Has 174 a [(1,.slice plan_p plan.length plan_c),(2,.slice tolls_p tolls.length tolls_c),(3,i6 cost),(4,pq b_1),(9,pq b_2),(10,.slice p_2 r_2.length c_2),(11,.slice p_3 r_3.length c_3),(12,i6 r_7.1),(13,i6 r_7.2),(14,i6 r_9.1),(15,i6 r_9.2),(63,i6 r_7.1),(64,i6 r_9.1),(65,.bool (r_7.1 != r_9.1)),(66,.bool (r_7.1 != r_9.1)),(70,.bool ((r_7.1 != r_9.1) || (r_7.2 != r_9.2)))]) hc ?_ ?_
   ·cases hb : (r_7.1 != r_9.1)
    ·rw [hb] at hf
     refine sp 4 hf rfl fun a hf => cNil ⟨hf.kp rfl,hc⟩
    ·rw [hb] at hf
     refine stS hf rfl rfl rfl fun a hf => stS hf rfl rfl rfl fun a hf => stS hf rfl rfl rfl fun a hf => sp 1 hf rfl fun a hf => cNil ⟨hf.kp rfl,hc⟩
   intro a w ⟨hf,hc⟩
   refine zT h ?_
   refine zI hf rfl hF ?_ ?_ <;> clear hF <;> intro hF
   ·refine zS fun K h => sp 1 hf rfl fun a hf => zT h ?_
    refine wp_ret ?_
    refine xThenR ?_
    obtain rfl := sj hF
    replace hc := ((((((hc.drop k6).drop k5).drop k4).drop k3).drop k2).drop k1).drop k0
    exact zO1 Try.results8 hf rfl ⟨rfl,hc⟩
   ·refine wp_skip ?_
    refine h11 _ _ ?_
    refine zS fun K h => zN hf hc ag_55 m2 rfl fun a w hf hc => ?_
    obtain ⟨r_10,hr_10,hF⟩ := bnd_some hF
    obtain ⟨G1,hle1,hrd1,hc,hth1⟩ := lend hc k5
    refine zC hf en_29 rfl (gauge_Plan_ok r_1 hrd1 hc hr_10) ?_
    rintro _ w ⟨p_7,c_7,rfl,hc⟩
    refine ⟨_,rfl,fun a hf => ?_⟩
    replace hc := hth1 _ _ hc
    refine sp 7 hf rfl fun a hf => zT h ?_
    refine wp_seq_k fun K15 h15 => cReg ?_
    refine zN hf hc ag_55 m7 rfl fun a w hf hc => ?_
    obtain ⟨r_11,hr_11,hF⟩ := bnd_some hF
    refine zC hf en_37 rfl (law03_Site_ok s_ h_s__Points hc hr_11) ?_
    rintro _ w ⟨p_8,c_8,rfl,hc⟩
    refine ⟨_,rfl,fun a hf => ?_⟩
    obtain ⟨r_12,hr_12,hF⟩ := bnd_some hF
    obtain ⟨G1,hle1,hrd1,hc,hth1⟩ := lend hc k0
    refine zC hf en_40 rfl (ref03_Plan_ok r_11 hrd1 hc hr_12) ?_
    rintro _ w ⟨p_9,c_9,rfl,hc⟩
    refine ⟨_,rfl,fun a hf => ?_⟩
    replace hc := hth1 _ _ hc
    refine sp 7 hf rfl fun a hf => cNil ?_
    replace hc := ((hc.drop k5).drop k4).drop k0
    refine h15 _ _ ?_
    refine wp_seq_k fun K16 h16 => zS fun K h => sp 2 hf rfl fun a hf => ?_
    obtain ⟨r_13,hr_13,hF⟩ := bnd_some hF
    refine zQ (v := .bool r_13) hf hc en_41 rfl (fun w hc => by obtain ⟨G1,hle1,hrd1,hc,hth1⟩ := lend hc k2; obtain ⟨G2,hle2,hrd2,hc,hth2⟩ := lend hc k0; exact (kit_Same_int_ok r_10.1 r_12.1 (hrd1.mono hle2) hrd2 hc hr_13).mono fun e w h => ⟨h.1,((hth1 _ _ ((hth2 _ _ h.2).unpick k0)).unpick k2)⟩) fun a w hf hc => sp 2 hf rfl fun a hf => stCc 4 (fun a => Has 174 a [(1,.slice plan_p plan.length plan_c),(2,.slice tolls_p tolls.length tolls_c),(3,i6 cost),(4,pq b_1),(9,pq b_2),(10,.slice p_2 r_2.length c_2),(11,.slice p_3 r_3.length c_3),(12,i6 r_10.2.1),(13,i6 r_10.2.2),(14,i6 r_12.2.1),(15,i6 r_12.2.2),(16,.slice p_7 r_10.1.length c_7),(17,.slice p_9 r_12.1.length c_9),(84,.slice p_7 r_10.1.length c_7),(85,.slice p_9 r_12.1.length c_9),(86,.bool r_13),(87,.bool (!r_13)),(88,.bool (!r_13)),(92,.bool ((!r_13) || (r_10.2.1 != r_12.2.1)))]) hc ?_ ?_
    ·cases hb : (!r_13)
     ·rw [hb] at hf
      refine sp 4 hf rfl fun a hf => cNil ⟨hf.kp rfl,hc⟩
     ·rw [hb] at hf
      refine stS hf rfl rfl rfl fun a hf => stS hf rfl rfl rfl fun a hf => stS hf rfl rfl rfl fun a hf => sp 1 hf rfl fun a hf => cNil ⟨hf.kp rfl,hc⟩
    intro a w ⟨hf,hc⟩
    refine sp 1 hf rfl fun a hf => stCc 4 (fun a => Has 174 a [(1,.slice plan_p plan.length plan_c),(2,.slice tolls_p tolls.length tolls_c),(3,i6 cost),(4,pq b_1),(9,pq b_2),(10,.slice p_2 r_2.length c_2),(11,.slice p_3 r_3.length c_3),(12,i6 r_10.2.1),(13,i6 r_10.2.2),(14,i6 r_12.2.1),(15,i6 r_12.2.2),(16,.slice p_7 r_10.1.length c_7),(17,.slice p_9 r_12.1.length c_9),(84,.slice p_7 r_10.1.length c_7),(85,.slice p_9 r_12.1.length c_9),(86,.bool r_13),(87,.bool (!r_13)),(88,.bool (!r_13)),(92,.bool ((!r_13) || (r_10.2.1 != r_12.2.1))),(93,.bool ((!r_13) || (r_10.2.1 != r_12.2.1))),(97,.bool (((!r_13) || (r_10.2.1 != r_12.2.1)) || (r_10.2.2 != r_12.2.2)))]) hc ?_ ?_
    ·cases hb : ((!r_13) || (r_10.2.1 != r_12.2.1))
     ·rw [hb] at hf
      refine sp 4 hf rfl fun a hf => cNil ⟨hf.kp rfl,hc⟩
     ·rw [hb] at hf
      refine stS hf rfl rfl rfl fun a hf => stS hf rfl rfl rfl fun a hf => stS hf rfl rfl rfl fun a hf => sp 1 hf rfl fun a hf => cNil ⟨hf.kp rfl,hc⟩
    intro a w ⟨hf,hc⟩
    refine zT h ?_
    refine zI hf rfl hF ?_ ?_ <;> clear hF <;> intro hF
    ·refine zS fun K h => sp 1 hf rfl fun a hf => zT h ?_
     refine wp_ret ?_
     refine xThenR ?_
     obtain rfl := sj hF
     replace hc := ((((((hc.drop k6).drop k5).drop k4).drop k3).drop k2).drop k1).drop k0
     exact zO1 Try.results8 hf rfl ⟨rfl,hc⟩
    ·refine wp_skip ?_
     refine h16 _ _ ?_
     refine zS fun K h => zN hf hc ag_55 m3 rfl fun a w hf hc => ?_
     obtain ⟨r_14,hr_14,hF⟩ := bnd_some hF
     obtain ⟨G1,hle1,hrd1,hc,hth1⟩ := lend hc k1
     refine zC hf en_42 rfl (gauge_Tolls_ok r_1 hrd1 hc hr_14) ?_
     rintro _ w ⟨p_10,c_10,rfl,hc⟩
     refine ⟨_,rfl,fun a hf => ?_⟩
     replace hc := hth1 _ _ hc
     refine sp 5 hf rfl fun a hf => zT h ?_
     refine wp_seq_k fun K20 h20 => ?_
     have hj20 : ∀ (m : Int) (w_1 : Int) a w,Has 174 a [(1,.slice plan_p plan.length plan_c),(2,.slice tolls_p tolls.length tolls_c),(3,i6 cost),(4,pq b_1),(9,pq b_2),(10,.slice p_2 r_2.length c_2),(11,.slice p_3 r_3.length c_3),(13,i6 r_14.2),(14,i6 m),(15,i6 w_1),(18,.slice p_10 r_14.1.length c_10)] → Ctx G (.row p_1 c_1 (r_1.Points.map enc_gauge_Point) 64 3::.row p_10 c_10 (r_14.1.map encI_i64) 3 1::.box b_2 [i6 r_1.Left,i6 r_1.Right,i6 r_1.Gap,i6 r_1.Step_,.slice p_1 r_1.Points.length c_1] 55::.row p_3 c_3 (r_3.map encI_i64) 3 1::.row p_2 c_2 (r_2.map encI_i64) 3 1::.box b_1 [i6 s_.Left,i6 s_.Right,i6 s_.Gap,i6 s_.Step_,.slice s__Points_p s_.Points.length s__Points_c] 55::Lf) w → law03_GaugePlans_j20 N s_ plan tolls cost r_1 r_2 r_3 r_14 m w_1 = some res → K20 a w := by
      repeat (clear hF)
      repeat (clear hc)
      repeat (clear hf)
      intro m w_1 a w hf hc hF
      unfold law03_GaugePlans_j20 at hF
      refine h20 _ _ ?_
      refine wp_seq_k fun K21 h21 => zS fun K h => sp 4 hf rfl fun a hf => stCc 8 (fun a => Has 174 a [(1,.slice plan_p plan.length plan_c),(2,.slice tolls_p tolls.length tolls_c),(3,i6 cost),(4,pq b_1),(9,pq b_2),(10,.slice p_2 r_2.length c_2),(11,.slice p_3 r_3.length c_3),(13,i6 r_14.2),(14,i6 m),(15,i6 w_1),(18,.slice p_10 r_14.1.length c_10),(105,i6 r_14.2),(106,i6 w_1),(107,.bool (r_14.2 != w_1)),(108,.bool (r_14.2 != w_1)),(116,.bool ((r_14.2 != w_1) || ((r_14.2 != 0) && (decide (0 < ((r_14.1.length : Nat) : Int))))))]) hc ?_ ?_
      ·cases hb : (r_14.2 != w_1)
       ·rw [hb] at hf
        refine sp 3 hf rfl fun a hf => stCc 4 (fun a => Has 174 a [(1,.slice plan_p plan.length plan_c),(2,.slice tolls_p tolls.length tolls_c),(3,i6 cost),(4,pq b_1),(9,pq b_2),(10,.slice p_2 r_2.length c_2),(11,.slice p_3 r_3.length c_3),(13,i6 r_14.2),(14,i6 m),(15,i6 w_1),(18,.slice p_10 r_14.1.length c_10),(105,i6 r_14.2),(106,i6 w_1),(107,.bool false),(108,.bool false),(109,i6 r_14.2),(110,.bool (r_14.2 != 0)),(111,.bool (r_14.2 != 0)),(115,.bool ((r_14.2 != 0) && (decide (0 < ((r_14.1.length : Nat) : Int)))))]) hc ?_ ?_
        ·cases hb : (r_14.2 != 0)
         ·rw [hb] at hf
          refine stS hf rfl rfl rfl fun a hf => stS hf rfl rfl rfl fun a hf => stS hf rfl rfl rfl fun a hf => sp 1 hf rfl fun a hf => cNil ⟨hf.kp rfl,hc⟩
         ·rw [hb] at hf
          refine sp 1 hf rfl fun a hf => zP hf rfl (pLenS Try.underlying43 rfl) fun a hf => sp 2 hf rfl fun a hf => cNil ⟨hf.kp rfl,hc⟩
        intro a w ⟨hf,hc⟩
        refine sp 1 hf rfl fun a hf => cNil ⟨hf.kp rfl,hc⟩
       ·rw [hb] at hf
        refine stS hf rfl rfl rfl fun a hf => stS hf rfl rfl rfl fun a hf => stS hf rfl rfl rfl fun a hf => stS hf rfl rfl rfl fun a hf => stS hf rfl rfl rfl fun a hf => stS hf rfl rfl rfl fun a hf => stS hf rfl rfl rfl fun a hf => sp 1 hf rfl fun a hf => cNil ⟨hf.kp rfl,hc⟩
      intro a w ⟨hf,hc⟩
      refine zT h ?_
      refine zI hf rfl hF ?_ ?_ <;> clear hF <;> intro hF
      ·refine zS fun K h => sp 1 hf rfl fun a hf => zT h ?_
       refine wp_ret ?_
       refine xThenR ?_
       obtain rfl := sj hF
       replace hc := (((((hc.drop k5).drop k4).drop k3).drop k2).drop k1).drop k0
       exact zO1 Try.results8 hf rfl ⟨rfl,hc⟩
      ·refine wp_skip ?_
       refine h21 _ _ ?_
       refine wp_seq_k fun K24 h24 => ?_
       have hj24 : ∀ a w,Has 174 a [(1,.slice plan_p plan.length plan_c),(2,.slice tolls_p tolls.length tolls_c),(3,i6 cost),(4,pq b_1),(9,pq b_2),(10,.slice p_2 r_2.length c_2),(11,.slice p_3 r_3.length c_3)] → Ctx G (.row p_1 c_1 (r_1.Points.map enc_gauge_Point) 64 3::.box b_2 [i6 r_1.Left,i6 r_1.Right,i6 r_1.Gap,i6 r_1.Step_,.slice p_1 r_1.Points.length c_1] 55::.row p_3 c_3 (r_3.map encI_i64) 3 1::.row p_2 c_2 (r_2.map encI_i64) 3 1::.box b_1 [i6 s_.Left,i6 s_.Right,i6 s_.Gap,i6 s_.Step_,.slice s__Points_p s_.Points.length s__Points_c] 55::Lf) w → law03_GaugePlans_j24 N s_ plan tolls cost r_1 r_2 r_3 = some res → K24 a w := by
        repeat (clear hF)
        repeat (clear hc)
        repeat (clear hf)
        intro a w hf hc hF
        unfold law03_GaugePlans_j24 at hF
        refine h24 _ _ ?_
        refine zS fun K h => zN hf hc ag_55 m1 rfl fun a w hf hc => sp 2 hf rfl fun a hf => ?_
        obtain ⟨r_15,hr_15,hF⟩ := bnd_some hF
        refine zQ (v := .tuple #[.bool r_15.1,i6 r_15.2]) hf hc en_44 rfl (fun w hc => by obtain ⟨G1,hle1,hrd1,hc,hth1⟩ := lend hc k0; obtain ⟨G2,hle2,hrd2,hc,hth2⟩ := lend hc k1; exact (gauge_Proves_ok r_1 r_3 cost (hrd1.mono hle2) hrd2 hc hr_15).mono fun e w h => ⟨h.1,((hth1 _ _ ((hth2 _ _ h.2).unpick k1)).unpick k0)⟩) fun a w hf hc => sp 5 hf rfl fun a hf => zT h ?_
        refine zS fun K h => zN hf hc ag_55 m4 rfl fun a w hf hc => ?_
        obtain ⟨r_16,hr_16,hF⟩ := bnd_some hF
        refine zC hf en_37 rfl (law03_Site_ok s_ h_s__Points hc hr_16) ?_
        rintro _ w ⟨p_11,c_11,rfl,hc⟩
        refine ⟨_,rfl,fun a hf => ?_⟩
        refine sp 2 hf rfl fun a hf => ?_
        obtain ⟨r_17,hr_17,hF⟩ := bnd_some hF
        refine zQ (v := .tuple #[.bool r_17.1,i6 r_17.2]) hf hc en_43 rfl (fun w hc => by obtain ⟨G1,hle1,hrd1,hc,hth1⟩ := lend hc k0; exact (ref03_Proves_ok r_16 tolls cost hrd1 (h_tolls.mono hle1) hc hr_17).mono fun e w h => ⟨h.1,((hth1 _ _ h.2).unpick k0)⟩) fun a w hf hc => sp 5 hf rfl fun a hf => zT h ?_
        refine zS fun K h => sp 2 hf rfl fun a hf => zP hf rfl (pEqB Try.underlying4 rfl rfl) fun a hf => sp 1 hf rfl fun a hf => stCc 4 (fun a => Has 174 a [(1,.slice plan_p plan.length plan_c),(2,.slice tolls_p tolls.length tolls_c),(4,pq b_1),(9,pq b_2),(10,.slice p_2 r_2.length c_2),(11,.slice p_3 r_3.length c_3),(21,.bool r_15.1),(13,i6 r_15.2),(22,.bool r_17.1),(15,i6 r_17.2),(148,.bool r_15.1),(149,.bool r_17.1),(150,.bool (r_15.1 == r_17.1)),(151,.bool (r_15.1 == r_17.1)),(155,.bool ((r_15.1 == r_17.1) && (r_15.2 == r_17.2)))]) hc ?_ ?_
        ·cases hb : (r_15.1 == r_17.1)
         ·rw [hb] at hf
          refine stS hf rfl rfl rfl fun a hf => stS hf rfl rfl rfl fun a hf => stS hf rfl rfl rfl fun a hf => sp 1 hf rfl fun a hf => cNil ⟨hf.kp rfl,hc⟩
         ·rw [hb] at hf
          refine sp 4 hf rfl fun a hf => cNil ⟨hf.kp rfl,hc⟩
        intro a w ⟨hf,hc⟩
        refine sp 1 hf rfl fun a hf => ?_
        obtain ⟨t_1,ht_1,hF⟩ := bnd_some hF
        refine stCc 4 (fun a => Has 174 a [(1,.slice plan_p plan.length plan_c),(2,.slice tolls_p tolls.length tolls_c),(4,pq b_1),(9,pq b_2),(10,.slice p_2 r_2.length c_2),(11,.slice p_3 r_3.length c_3),(21,.bool r_15.1),(13,i6 r_15.2),(22,.bool r_17.1),(15,i6 r_17.2),(148,.bool r_15.1),(149,.bool r_17.1),(150,.bool (r_15.1 == r_17.1)),(151,.bool (r_15.1 == r_17.1)),(155,.bool ((r_15.1 == r_17.1) && (r_15.2 == r_17.2))),(156,.bool ((r_15.1 == r_17.1) && (r_15.2 == r_17.2))),(160,.bool t_1)]) hc ?_ ?_
        ·cases hb : ((r_15.1 == r_17.1) && (r_15.2 == r_17.2))
         ·rw [hb] at hf
          have hF := condF hb ht_1
          obtain rfl := sj hF
          refine stS hf rfl rfl rfl fun a hf => stS hf rfl rfl rfl fun a hf => stS hf rfl rfl rfl fun a hf => sp 1 hf rfl fun a hf => cNil ⟨hf.kp rfl,hc⟩
         ·rw [hb] at hf
          have hF := condT hb ht_1
          refine zN hf hc ag_55 m2 rfl fun a w hf hc => zN hf hc ag_55 m5 rfl fun a w hf hc => ?_
          obtain ⟨r_18,hr_18,hF⟩ := bnd_some hF
          refine zQ (v := .bool r_18) hf hc en_45 rfl (fun w hc => by obtain ⟨G1,hle1,hrd1,hc,hth1⟩ := lend hc k1; exact (law03_sameSite_ok r_1 s_ hrd1 (h_s__Points.mono hle1) hc hr_18).mono fun e w h => ⟨h.1,((hth1 _ _ h.2).unpick k1)⟩) fun a w hf hc => sp 1 hf rfl fun a hf => ?_
          obtain rfl := sj hF
          exact cNil ⟨hf.kp rfl,hc⟩
        intro a w ⟨hf,hc⟩
        refine sp 1 hf rfl fun a hf => ?_
        obtain ⟨t_2,ht_2,hF⟩ := bnd_some hF
        refine stCc 4 (fun a => Has 174 a [(1,.slice plan_p plan.length plan_c),(2,.slice tolls_p tolls.length tolls_c),(4,pq b_1),(9,pq b_2),(10,.slice p_2 r_2.length c_2),(11,.slice p_3 r_3.length c_3),(21,.bool r_15.1),(13,i6 r_15.2),(22,.bool r_17.1),(15,i6 r_17.2),(148,.bool r_15.1),(149,.bool r_17.1),(150,.bool (r_15.1 == r_17.1)),(151,.bool (r_15.1 == r_17.1)),(155,.bool ((r_15.1 == r_17.1) && (r_15.2 == r_17.2))),(156,.bool ((r_15.1 == r_17.1) && (r_15.2 == r_17.2))),(160,.bool t_1),(161,.bool t_1),(165,.bool t_2)]) hc ?_ ?_
        ·cases hb : t_1
         ·rw [hb] at hf
          try rw [hb] at hc
          have hF := condF hb ht_2
          obtain rfl := sj hF
          refine stS hf rfl rfl rfl fun a hf => stS hf rfl rfl rfl fun a hf => stS hf rfl rfl rfl fun a hf => sp 1 hf rfl fun a hf => cNil ⟨hf.kp rfl,hc⟩
         ·rw [hb] at hf
          try rw [hb] at hc
          have hF := condT hb ht_2
          refine sp 2 hf rfl fun a hf => ?_
          obtain ⟨r_19,hr_19,hF⟩ := bnd_some hF
          refine zQ (v := .bool r_19) hf hc en_41 rfl (fun w hc => by obtain ⟨G1,hle1,hrd1,hc,hth1⟩ := lend hc k4; exact (kit_Same_int_ok r_2 plan hrd1 (h_plan.mono hle1) hc hr_19).mono fun e w h => ⟨h.1,((hth1 _ _ h.2).unpick k4)⟩) fun a w hf hc => sp 1 hf rfl fun a hf => ?_
          obtain rfl := sj hF
          exact cNil ⟨hf.kp rfl,hc⟩
        intro a w ⟨hf,hc⟩
        refine sp 1 hf rfl fun a hf => ?_
        obtain ⟨t_3,ht_3,hF⟩ := bnd_some hF
        refine stCc 4 (fun a => Has 174 a [(1,.slice plan_p plan.length plan_c),(2,.slice tolls_p tolls.length tolls_c),(4,pq b_1),(9,pq b_2),(10,.slice p_2 r_2.length c_2),(11,.slice p_3 r_3.length c_3),(21,.bool r_15.1),(13,i6 r_15.2),(22,.bool r_17.1),(15,i6 r_17.2),(148,.bool r_15.1),(149,.bool r_17.1),(150,.bool (r_15.1 == r_17.1)),(151,.bool (r_15.1 == r_17.1)),(155,.bool ((r_15.1 == r_17.1) && (r_15.2 == r_17.2))),(156,.bool ((r_15.1 == r_17.1) && (r_15.2 == r_17.2))),(160,.bool t_1),(161,.bool t_1),(165,.bool t_2),(166,.bool t_2),(170,.bool t_3)]) hc ?_ ?_
        ·cases hb : t_2
         ·rw [hb] at hf
          try rw [hb] at hc
          have hF := condF hb ht_3
          obtain rfl := sj hF
          refine stS hf rfl rfl rfl fun a hf => stS hf rfl rfl rfl fun a hf => stS hf rfl rfl rfl fun a hf => sp 1 hf rfl fun a hf => cNil ⟨hf.kp rfl,hc⟩
         ·rw [hb] at hf
          try rw [hb] at hc
          have hF := condT hb ht_3
          refine sp 2 hf rfl fun a hf => ?_
          obtain ⟨r_20,hr_20,hF⟩ := bnd_some hF
          refine zQ (v := .bool r_20) hf hc en_41 rfl (fun w hc => by obtain ⟨G1,hle1,hrd1,hc,hth1⟩ := lend hc k3; exact (kit_Same_int_ok r_3 tolls hrd1 (h_tolls.mono hle1) hc hr_20).mono fun e w h => ⟨h.1,((hth1 _ _ h.2).unpick k3)⟩) fun a w hf hc => sp 1 hf rfl fun a hf => ?_
          obtain rfl := sj hF
          exact cNil ⟨hf.kp rfl,hc⟩
        intro a w ⟨hf,hc⟩
        refine sp 1 hf rfl fun a hf => ?_
        obtain ⟨t_4,ht_4,hF⟩ := bnd_some hF
        refine stCc 2 (fun a => Has 174 a [(1,.slice plan_p plan.length plan_c),(2,.slice tolls_p tolls.length tolls_c),(4,pq b_1),(9,pq b_2),(10,.slice p_2 r_2.length c_2),(11,.slice p_3 r_3.length c_3),(21,.bool r_15.1),(13,i6 r_15.2),(22,.bool r_17.1),(15,i6 r_17.2),(148,.bool r_15.1),(149,.bool r_17.1),(150,.bool (r_15.1 == r_17.1)),(151,.bool (r_15.1 == r_17.1)),(155,.bool ((r_15.1 == r_17.1) && (r_15.2 == r_17.2))),(156,.bool ((r_15.1 == r_17.1) && (r_15.2 == r_17.2))),(160,.bool t_1),(161,.bool t_1),(165,.bool t_2),(166,.bool t_2),(170,.bool t_3),(171,.bool t_3),(173,.bool t_4)]) hc ?_ ?_
        ·cases hb : t_3
         ·rw [hb] at hf
          try rw [hb] at hc
          have hF := condF hb ht_4
          obtain rfl := sj hF
          refine stS hf rfl rfl rfl fun a hf => sp 1 hf rfl fun a hf => cNil ⟨hf.kp rfl,hc⟩
         ·rw [hb] at hf
          try rw [hb] at hc
          have hF := condT hb ht_4
          obtain ⟨r_21,hr_21,hF⟩ := bnd_some hF
          refine zQ (v := .bool r_21) hf hc en_15 rfl (fun w hc => law03_awake_ok hc hr_21) fun a w hf hc => sp 1 hf rfl fun a hf => ?_
          obtain rfl := sj hF
          exact cNil ⟨hf.kp rfl,hc⟩
        intro a w ⟨hf,hc⟩
        refine sp 1 hf rfl fun a hf => zT h ?_
        refine wp_ret ?_
        obtain rfl := sj hF
        replace hc := (((((hc.drop k5).drop k4).drop k3).drop k2).drop k1).drop k0
        exact zO1 Try.results8 hf rfl ⟨rfl,hc⟩
       refine zS fun K h => sp 2 hf rfl fun a hf => zT h ?_
       refine zI hf rfl hF ?_ ?_ <;> clear hF <;> intro hF
       ·refine zS fun K h => zN hf hc ag_55 m5 rfl fun a w hf hc => ?_
        obtain ⟨r_22,hr_22,hF⟩ := bnd_some hF
        refine zC hf en_37 rfl (law03_Site_ok s_ h_s__Points hc hr_22) ?_
        rintro _ w ⟨p_12,c_12,rfl,hc⟩
        refine ⟨_,rfl,fun a hf => ?_⟩
        refine sp 2 hf rfl fun a hf => ?_
        obtain ⟨r_23,hr_23,hF⟩ := bnd_some hF
        refine zQ (v := .tuple #[.bool r_23.1,i6 r_23.2]) hf hc en_43 rfl (fun w hc => by obtain ⟨G1,hle1,hrd1,hc,hth1⟩ := lend hc k0; obtain ⟨G2,hle2,hrd2,hc,hth2⟩ := lend hc k1; exact (ref03_Proves_ok r_22 r_14.1 m (hrd1.mono hle2) hrd2 hc hr_23).mono fun e w h => ⟨h.1,((hth1 _ _ ((hth2 _ _ h.2).unpick k1)).unpick k0)⟩) fun a w hf hc => sp 5 hf rfl fun a hf => zT h ?_
        refine zS fun K h => sp 3 hf rfl fun a hf => stCc 3 (fun a => Has 174 a [(1,.slice plan_p plan.length plan_c),(2,.slice tolls_p tolls.length tolls_c),(3,i6 cost),(4,pq b_1),(9,pq b_2),(10,.slice p_2 r_2.length c_2),(11,.slice p_3 r_3.length c_3),(19,.bool r_23.1),(20,i6 r_23.2),(127,i6 r_23.2),(128,.bool (r_23.2 != 0)),(129,.bool (r_23.2 != 0)),(132,.bool ((r_23.2 != 0) || (!r_23.1)))]) hc ?_ ?_
        ·cases hb : (r_23.2 != 0)
         ·rw [hb] at hf
          refine sp 3 hf rfl fun a hf => cNil ⟨hf.kp rfl,hc⟩
         ·rw [hb] at hf
          refine stS hf rfl rfl rfl fun a hf => stS hf rfl rfl rfl fun a hf => sp 1 hf rfl fun a hf => cNil ⟨hf.kp rfl,hc⟩
        intro a w ⟨hf,hc⟩
        refine zT h ?_
        refine zI hf rfl hF ?_ ?_ <;> clear hF <;> intro hF
        ·refine zS fun K h => sp 1 hf rfl fun a hf => zT h ?_
         refine wp_ret ?_
         refine xThenR ?_
         obtain rfl := sj hF
         replace hc := ((((((hc.drop k6).drop k5).drop k4).drop k3).drop k2).drop k1).drop k0
         exact zO1 Try.results8 hf rfl ⟨rfl,hc⟩
        ·refine wp_skip ?_
         replace hc := (hc.drop k2).drop k0
         exact hj24  _ _  (hf.kp rfl) hc hF
       ·refine wp_skip ?_
        replace hc := hc.drop k1
        exact hj24  _ _  (hf.kp rfl) hc hF
     refine zS fun K h => sp 2 hf rfl fun a hf => zT h ?_
     refine zI hf rfl hF ?_ ?_ <;> clear hF <;> intro hF
     ·refine cReg ?_
      refine sp 2 hf rfl fun a hf => cNil ?_
      replace hc := (hc.drop k3).drop k2
      exact hj20 1000000000 0 _ _  (hf.kp rfl) hc hF
     ·refine wp_skip ?_
      replace hc := (hc.drop k3).drop k2
      exact hj20 r_12.2.1 r_12.2.2 _ _  (hf.kp rfl) hc hF

end Go.Nilo
