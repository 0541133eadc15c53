/-
  EACH FUNCTION OVER PLAIN DATA: printed by a program of ours over this translation.
-/
import Derived.Test.YtomdgakmkihfhaaNum
set_option maxRecDepth 100000
set_option maxHeartbeats 4000000
set_option linter.unusedVariables false
namespace Go.Proofs.Ytomdgakmkihfhaa
open Go.Sh
abbrev ks_int_u8 : List Kd := [Kd.int .u8]
abbrev ks_int_u32 : List Kd := [Kd.int .u32]
abbrev ks_bool_lst_int_u32 : List Kd := [Kd.bool, Kd.lst [Kd.int .u32]]
abbrev ks_int_i64_lst_int_u8 : List Kd := [Kd.int .i64, Kd.lst [Kd.int .u8]]
abbrev ks_lst_int_u8 : List Kd := [Kd.lst [Kd.int .u8]]
def pl_slices_Equalasl_byte_byte_4 : PLoop := ⟨[(13, PK.int .i64)], [0, 1, 12], []⟩
def plan_slices_Equalasl_byte_byte : PPlan := ⟨[], [(4, pl_slices_Equalasl_byte_byte_4)], [], [], [], []⟩
theorem k_slices_Equalasl_byte_byte : Known Try.prog f_slices_Equalasl_byte_byte Try.f14 plan_slices_Equalasl_byte_byte.plan (bodyOf Try.f14) := ⟨Try.func14, by kernel_rfl, by kernel_rfl, by kernel_rfl, by kernel_rfl, by kernel_rfl⟩
abbrev slices_Equalasl_byte_byte_ps : List Pk := [Pk.lst [Kd.int .u8], Pk.lst [Kd.int .u8]]
abbrev slices_Equalasl_byte_byte_rs : List Pk := [Pk.bool]
def slices_Equalasl_byte_byte_l4 (s10 : List UInt8) (s21 : List UInt8) (x13 : Int) (next4 : (Int × Unit) → Prop) (K : Bool → Prop) : Prop :=
 IfB (decide ((x13 : Int) < (s10.length : Int)))
 ((0 : Int) ≤ x13 ∧ AtN s10 x13.toNat fun x18 =>
 WfT ks_int_u8 x18 →
 (0 : Int) ≤ x13 ∧ AtN s21 x13.toNat fun x22 =>
 WfT ks_int_u8 x22 →
 IfB (((x18.toNat : Int) : Int) != (x22.toNat : Int))
 (K false)
 (next4 ((IntKind.wrap .i64 (x13 + 1)), ())))
 (K true)
def slices_Equalasl_byte_byte_q (s10 : List UInt8) (s21 : List UInt8) (K : Bool → Prop) : Prop :=
 IfB (((s10.length : Int) : Int) != (s21.length : Int))
 (K false)
 (LoopJ (Int × Unit) ((0 : Int), ()) fun y next =>
 WfY pl_slices_Equalasl_byte_byte_4.kinds y →
 slices_Equalasl_byte_byte_l4 s10 s21 y.1 next K)
noncomputable def tab_slices_Equalasl_byte_byte : Tab := ⟨[], []⟩
theorem slices_Equalasl_byte_byte_eq : (fun (x : PkTs slices_Equalasl_byte_byte_ps) (K : PkTs slices_Equalasl_byte_byte_rs → Prop) => slices_Equalasl_byte_byte_q x.1 x.2.1 (fun r0 => K (r0, ()))) = fun x K => PCode Try.prog tab_slices_Equalasl_byte_byte plan_slices_Equalasl_byte_byte (bodyOf Try.f14) (parS slices_Equalasl_byte_byte_ps x) (PRet Try.prog Try.f14.results.toList fun a st => outP slices_Equalasl_byte_byte_rs st a K) := by kernel_rfl
theorem slices_Equalasl_byte_byte_fq : FnQ Try.prog f_slices_Equalasl_byte_byte slices_Equalasl_byte_byte_ps slices_Equalasl_byte_byte_rs (fun x K => slices_Equalasl_byte_byte_q x.1 x.2.1 (fun r0 => K (r0, ()))) := (fnQ_of k_slices_Equalasl_byte_byte (tab := tab_slices_Equalasl_byte_byte) ⟨trivial, trivial⟩ rfl).of_eq slices_Equalasl_byte_byte_eq
noncomputable def ct_slices_Equalasl_byte_byte : Ct := ctRd slices_Equalasl_byte_byte_ps slices_Equalasl_byte_byte_rs (fun x K => slices_Equalasl_byte_byte_q x.1 x.2.1 (fun r0 => K (r0, ())))
theorem ct_slices_Equalasl_byte_byte_ok : SoundCt Try.prog f_slices_Equalasl_byte_byte ct_slices_Equalasl_byte_byte := ctRd_sound slices_Equalasl_byte_byte_fq
def plan_attr_Same_1 : PPlan := ⟨[], [], [], [], [], []⟩
theorem k_attr_Same_1 : Known Try.prog f_attr_Same_1 Try.f13 plan_attr_Same_1.plan (bodyOf Try.f13) := ⟨Try.func13, by kernel_rfl, by kernel_rfl, by kernel_rfl, by kernel_rfl, by kernel_rfl⟩
abbrev attr_Same_1_ps : List Pk := [Pk.agg [Kd.int .i64, Kd.lst [Kd.int .u8]], Pk.agg [Kd.int .i64, Kd.lst [Kd.int .u8]]]
abbrev attr_Same_1_rs : List Pk := [Pk.bool]
def attr_Same_1_q (x0 : Int × List UInt8) (y1 : Int × List UInt8) (K : Bool → Prop) : Prop :=
 IfB ((x0.1 : Int) == y1.1)
 ((WfPs slices_Equalasl_byte_byte_ps (x0.2, y1.2, ()) →
 slices_Equalasl_byte_byte_q x0.2 y1.2 (fun x15 =>
 WfPs slices_Equalasl_byte_byte_rs (x15, ()) →
 K x15)))
 (K false)
noncomputable def tab_attr_Same_1 : Tab := ⟨[(f_slices_Equalasl_byte_byte, ct_slices_Equalasl_byte_byte)], []⟩
theorem attr_Same_1_eq : (fun (x : PkTs attr_Same_1_ps) (K : PkTs attr_Same_1_rs → Prop) => attr_Same_1_q x.1 x.2.1 (fun r0 => K (r0, ()))) = fun x K => PCode Try.prog tab_attr_Same_1 plan_attr_Same_1 (bodyOf Try.f13) (parS attr_Same_1_ps x) (PRet Try.prog Try.f13.results.toList fun a st => outP attr_Same_1_rs st a K) := by kernel_rfl
theorem attr_Same_1_fq : FnQ Try.prog f_attr_Same_1 attr_Same_1_ps attr_Same_1_rs (fun x K => attr_Same_1_q x.1 x.2.1 (fun r0 => K (r0, ()))) := (fnQ_of k_attr_Same_1 (tab := tab_attr_Same_1) ⟨⟨ct_slices_Equalasl_byte_byte_ok, trivial⟩, trivial⟩ rfl).of_eq attr_Same_1_eq
noncomputable def ct_attr_Same_1 : Ct := ctRd attr_Same_1_ps attr_Same_1_rs (fun x K => attr_Same_1_q x.1 x.2.1 (fun r0 => K (r0, ())))
theorem ct_attr_Same_1_ok : SoundCt Try.prog f_attr_Same_1 ct_attr_Same_1 := ctRd_sound attr_Same_1_fq
def plan_attr_perhaps : PPlan := ⟨[], [], [], [], [], []⟩
theorem k_attr_perhaps : Known Try.prog f_attr_perhaps Try.f15 plan_attr_perhaps.plan (bodyOf Try.f15) := ⟨Try.func15, by kernel_rfl, by kernel_rfl, by kernel_rfl, by kernel_rfl, by kernel_rfl⟩
abbrev attr_perhaps_ps : List Pk := [Pk.bool, Pk.bool, Pk.bool]
abbrev attr_perhaps_rs : List Pk := [Pk.bool]
def attr_perhaps_q (is0 : Bool) (was1 : Bool) (same2 : Bool) (K : Bool → Prop) : Prop :=
 IfB (is0 == was1)
 (IfB (!is0)
 (K true)
 (K same2))
 (K false)
noncomputable def tab_attr_perhaps : Tab := ⟨[], []⟩
theorem attr_perhaps_eq : (fun (x : PkTs attr_perhaps_ps) (K : PkTs attr_perhaps_rs → Prop) => attr_perhaps_q x.1 x.2.1 x.2.2.1 (fun r0 => K (r0, ()))) = fun x K => PCode Try.prog tab_attr_perhaps plan_attr_perhaps (bodyOf Try.f15) (parS attr_perhaps_ps x) (PRet Try.prog Try.f15.results.toList fun a st => outP attr_perhaps_rs st a K) := by kernel_rfl
theorem attr_perhaps_fq : FnQ Try.prog f_attr_perhaps attr_perhaps_ps attr_perhaps_rs (fun x K => attr_perhaps_q x.1 x.2.1 x.2.2.1 (fun r0 => K (r0, ()))) := (fnQ_of k_attr_perhaps (tab := tab_attr_perhaps) ⟨trivial, trivial⟩ rfl).of_eq attr_perhaps_eq
noncomputable def ct_attr_perhaps : Ct := ctRd attr_perhaps_ps attr_perhaps_rs (fun x K => attr_perhaps_q x.1 x.2.1 x.2.2.1 (fun r0 => K (r0, ())))
theorem ct_attr_perhaps_ok : SoundCt Try.prog f_attr_perhaps ct_attr_perhaps := ctRd_sound attr_perhaps_fq
def pl_slices_Equalasl_uint32_uint32_4 : PLoop := ⟨[(13, PK.int .i64)], [0, 1, 12], []⟩
def plan_slices_Equalasl_uint32_uint32 : PPlan := ⟨[], [(4, pl_slices_Equalasl_uint32_uint32_4)], [], [], [], []⟩
theorem k_slices_Equalasl_uint32_uint32 : Known Try.prog f_slices_Equalasl_uint32_uint32 Try.f17 plan_slices_Equalasl_uint32_uint32.plan (bodyOf Try.f17) := ⟨Try.func17, by kernel_rfl, by kernel_rfl, by kernel_rfl, by kernel_rfl, by kernel_rfl⟩
abbrev slices_Equalasl_uint32_uint32_ps : List Pk := [Pk.lst [Kd.int .u32], Pk.lst [Kd.int .u32]]
abbrev slices_Equalasl_uint32_uint32_rs : List Pk := [Pk.bool]
def slices_Equalasl_uint32_uint32_l4 (s10 : List UInt32) (s21 : List UInt32) (x13 : Int) (next4 : (Int × Unit) → Prop) (K : Bool → Prop) : Prop :=
 IfB (decide ((x13 : Int) < (s10.length : Int)))
 ((0 : Int) ≤ x13 ∧ AtN s10 x13.toNat fun x18 =>
 WfT ks_int_u32 x18 →
 (0 : Int) ≤ x13 ∧ AtN s21 x13.toNat fun x22 =>
 WfT ks_int_u32 x22 →
 IfB (((x18.toNat : Int) : Int) != (x22.toNat : Int))
 (K false)
 (next4 ((IntKind.wrap .i64 (x13 + 1)), ())))
 (K true)
def slices_Equalasl_uint32_uint32_q (s10 : List UInt32) (s21 : List UInt32) (K : Bool → Prop) : Prop :=
 IfB (((s10.length : Int) : Int) != (s21.length : Int))
 (K false)
 (LoopJ (Int × Unit) ((0 : Int), ()) fun y next =>
 WfY pl_slices_Equalasl_uint32_uint32_4.kinds y →
 slices_Equalasl_uint32_uint32_l4 s10 s21 y.1 next K)
noncomputable def tab_slices_Equalasl_uint32_uint32 : Tab := ⟨[], []⟩
theorem slices_Equalasl_uint32_uint32_eq : (fun (x : PkTs slices_Equalasl_uint32_uint32_ps) (K : PkTs slices_Equalasl_uint32_uint32_rs → Prop) => slices_Equalasl_uint32_uint32_q x.1 x.2.1 (fun r0 => K (r0, ()))) = fun x K => PCode Try.prog tab_slices_Equalasl_uint32_uint32 plan_slices_Equalasl_uint32_uint32 (bodyOf Try.f17) (parS slices_Equalasl_uint32_uint32_ps x) (PRet Try.prog Try.f17.results.toList fun a st => outP slices_Equalasl_uint32_uint32_rs st a K) := by kernel_rfl
theorem slices_Equalasl_uint32_uint32_fq : FnQ Try.prog f_slices_Equalasl_uint32_uint32 slices_Equalasl_uint32_uint32_ps slices_Equalasl_uint32_uint32_rs (fun x K => slices_Equalasl_uint32_uint32_q x.1 x.2.1 (fun r0 => K (r0, ()))) := (fnQ_of k_slices_Equalasl_uint32_uint32 (tab := tab_slices_Equalasl_uint32_uint32) ⟨trivial, trivial⟩ rfl).of_eq slices_Equalasl_uint32_uint32_eq
noncomputable def ct_slices_Equalasl_uint32_uint32 : Ct := ctRd slices_Equalasl_uint32_uint32_ps slices_Equalasl_uint32_uint32_rs (fun x K => slices_Equalasl_uint32_uint32_q x.1 x.2.1 (fun r0 => K (r0, ())))
theorem ct_slices_Equalasl_uint32_uint32_ok : SoundCt Try.prog f_slices_Equalasl_uint32_uint32 ct_slices_Equalasl_uint32_uint32 := ctRd_sound slices_Equalasl_uint32_uint32_fq
def plan_path_Same_1 : PPlan := ⟨[], [], [], [], [], []⟩
theorem k_path_Same_1 : Known Try.prog f_path_Same_1 Try.f23 plan_path_Same_1.plan (bodyOf Try.f23) := ⟨Try.func23, by kernel_rfl, by kernel_rfl, by kernel_rfl, by kernel_rfl, by kernel_rfl⟩
abbrev path_Same_1_ps : List Pk := [Pk.agg [Kd.bool, Kd.lst [Kd.int .u32]], Pk.agg [Kd.bool, Kd.lst [Kd.int .u32]]]
abbrev path_Same_1_rs : List Pk := [Pk.bool]
def path_Same_1_q (x0 : Bool × List UInt32) (y1 : Bool × List UInt32) (K : Bool → Prop) : Prop :=
 IfB (x0.1 == y1.1)
 ((WfPs slices_Equalasl_uint32_uint32_ps (x0.2, y1.2, ()) →
 slices_Equalasl_uint32_uint32_q x0.2 y1.2 (fun x15 =>
 WfPs slices_Equalasl_uint32_uint32_rs (x15, ()) →
 K x15)))
 (K false)
noncomputable def tab_path_Same_1 : Tab := ⟨[(f_slices_Equalasl_uint32_uint32, ct_slices_Equalasl_uint32_uint32)], []⟩
theorem path_Same_1_eq : (fun (x : PkTs path_Same_1_ps) (K : PkTs path_Same_1_rs → Prop) => path_Same_1_q x.1 x.2.1 (fun r0 => K (r0, ()))) = fun x K => PCode Try.prog tab_path_Same_1 plan_path_Same_1 (bodyOf Try.f23) (parS path_Same_1_ps x) (PRet Try.prog Try.f23.results.toList fun a st => outP path_Same_1_rs st a K) := by kernel_rfl
theorem path_Same_1_fq : FnQ Try.prog f_path_Same_1 path_Same_1_ps path_Same_1_rs (fun x K => path_Same_1_q x.1 x.2.1 (fun r0 => K (r0, ()))) := (fnQ_of k_path_Same_1 (tab := tab_path_Same_1) ⟨⟨ct_slices_Equalasl_uint32_uint32_ok, trivial⟩, trivial⟩ rfl).of_eq path_Same_1_eq
noncomputable def ct_path_Same_1 : Ct := ctRd path_Same_1_ps path_Same_1_rs (fun x K => path_Same_1_q x.1 x.2.1 (fun r0 => K (r0, ())))
theorem ct_path_Same_1_ok : SoundCt Try.prog f_path_Same_1 ct_path_Same_1 := ctRd_sound path_Same_1_fq
def pl_slices_EqualFuncasl_api_Segment_sl_api_Segment_api_Segment_api_Segment_at_path_Same_1_4 : PLoop := ⟨[(17, PK.int .i64)], [1, 2, 15, 16], []⟩
def plan_slices_EqualFuncasl_api_Segment_sl_api_Segment_api_Segment_api_Segment_at_path_Same_1 : PPlan := ⟨[], [(4, pl_slices_EqualFuncasl_api_Segment_sl_api_Segment_api_Segment_api_Segment_at_path_Same_1_4)], [], [], [], []⟩
theorem k_slices_EqualFuncasl_api_Segment_sl_api_Segment_api_Segment_api_Segment_at_path_Same_1 : Known Try.prog f_slices_EqualFuncasl_api_Segment_sl_api_Segment_api_Segment_api_Segment Try.f22 plan_slices_EqualFuncasl_api_Segment_sl_api_Segment_api_Segment_api_Segment_at_path_Same_1.plan (bodyOf Try.f22) := ⟨Try.func22, by kernel_rfl, by kernel_rfl, by kernel_rfl, by kernel_rfl, by kernel_rfl⟩
abbrev slices_EqualFuncasl_api_Segment_sl_api_Segment_api_Segment_api_Segment_at_path_Same_1_ps : List Pk := [Pk.lst [Kd.bool, Kd.lst [Kd.int .u32]], Pk.lst [Kd.bool, Kd.lst [Kd.int .u32]], Pk.fn 23]
abbrev slices_EqualFuncasl_api_Segment_sl_api_Segment_api_Segment_api_Segment_at_path_Same_1_rs : List Pk := [Pk.bool]
def slices_EqualFuncasl_api_Segment_sl_api_Segment_api_Segment_api_Segment_at_path_Same_1_l4 (s21 : List (Bool × List UInt32)) (s10 : List (Bool × List UInt32)) (x17 : Int) (next4 : (Int × Unit) → Prop) (K : Bool → Prop) : Prop :=
 IfB (decide ((x17 : Int) < (s10.length : Int)))
 ((0 : Int) ≤ x17 ∧ AtN s10 x17.toNat fun x20 =>
 WfT ks_bool_lst_int_u32 x20 →
 (0 : Int) ≤ x17 ∧ AtN s21 x17.toNat fun x24 =>
 WfT ks_bool_lst_int_u32 x24 →
 (WfPs path_Same_1_ps (x20, x24, ()) →
 path_Same_1_q x20 x24 (fun x29 =>
 WfPs path_Same_1_rs (x29, ()) →
 IfB (!x29)
 (K false)
 (next4 ((IntKind.wrap .i64 (x17 + 1)), ())))))
 (K true)
def slices_EqualFuncasl_api_Segment_sl_api_Segment_api_Segment_api_Segment_at_path_Same_1_q (s10 : List (Bool × List UInt32)) (s21 : List (Bool × List UInt32)) (K : Bool → Prop) : Prop :=
 IfB (((s10.length : Int) : Int) != (s21.length : Int))
 (K false)
 (LoopJ (Int × Unit) ((0 : Int), ()) fun y next =>
 WfY pl_slices_EqualFuncasl_api_Segment_sl_api_Segment_api_Segment_api_Segment_at_path_Same_1_4.kinds y →
 slices_EqualFuncasl_api_Segment_sl_api_Segment_api_Segment_api_Segment_at_path_Same_1_l4 s21 s10 y.1 next K)
noncomputable def tab_slices_EqualFuncasl_api_Segment_sl_api_Segment_api_Segment_api_Segment_at_path_Same_1 : Tab := ⟨[(f_path_Same_1, ct_path_Same_1)], []⟩
theorem slices_EqualFuncasl_api_Segment_sl_api_Segment_api_Segment_api_Segment_at_path_Same_1_eq : (fun (x : PkTs slices_EqualFuncasl_api_Segment_sl_api_Segment_api_Segment_api_Segment_at_path_Same_1_ps) (K : PkTs slices_EqualFuncasl_api_Segment_sl_api_Segment_api_Segment_api_Segment_at_path_Same_1_rs → Prop) => slices_EqualFuncasl_api_Segment_sl_api_Segment_api_Segment_api_Segment_at_path_Same_1_q x.1 x.2.1 (fun r0 => K (r0, ()))) = fun x K => PCode Try.prog tab_slices_EqualFuncasl_api_Segment_sl_api_Segment_api_Segment_api_Segment_at_path_Same_1 plan_slices_EqualFuncasl_api_Segment_sl_api_Segment_api_Segment_api_Segment_at_path_Same_1 (bodyOf Try.f22) (parS slices_EqualFuncasl_api_Segment_sl_api_Segment_api_Segment_api_Segment_at_path_Same_1_ps x) (PRet Try.prog Try.f22.results.toList fun a st => outP slices_EqualFuncasl_api_Segment_sl_api_Segment_api_Segment_api_Segment_at_path_Same_1_rs st a K) := by kernel_rfl
theorem slices_EqualFuncasl_api_Segment_sl_api_Segment_api_Segment_api_Segment_at_path_Same_1_fq : FnQ Try.prog f_slices_EqualFuncasl_api_Segment_sl_api_Segment_api_Segment_api_Segment slices_EqualFuncasl_api_Segment_sl_api_Segment_api_Segment_api_Segment_at_path_Same_1_ps slices_EqualFuncasl_api_Segment_sl_api_Segment_api_Segment_api_Segment_at_path_Same_1_rs (fun x K => slices_EqualFuncasl_api_Segment_sl_api_Segment_api_Segment_api_Segment_at_path_Same_1_q x.1 x.2.1 (fun r0 => K (r0, ()))) := (fnQ_of k_slices_EqualFuncasl_api_Segment_sl_api_Segment_api_Segment_api_Segment_at_path_Same_1 (tab := tab_slices_EqualFuncasl_api_Segment_sl_api_Segment_api_Segment_api_Segment_at_path_Same_1) ⟨⟨ct_path_Same_1_ok, trivial⟩, trivial⟩ rfl).of_eq slices_EqualFuncasl_api_Segment_sl_api_Segment_api_Segment_api_Segment_at_path_Same_1_eq
noncomputable def ct_slices_EqualFuncasl_api_Segment_sl_api_Segment_api_Segment_api_Segment_at_path_Same_1 : Ct := ctRd slices_EqualFuncasl_api_Segment_sl_api_Segment_api_Segment_api_Segment_at_path_Same_1_ps slices_EqualFuncasl_api_Segment_sl_api_Segment_api_Segment_api_Segment_at_path_Same_1_rs (fun x K => slices_EqualFuncasl_api_Segment_sl_api_Segment_api_Segment_api_Segment_at_path_Same_1_q x.1 x.2.1 (fun r0 => K (r0, ())))
theorem ct_slices_EqualFuncasl_api_Segment_sl_api_Segment_api_Segment_api_Segment_at_path_Same_1_ok : SoundCt Try.prog f_slices_EqualFuncasl_api_Segment_sl_api_Segment_api_Segment_api_Segment ct_slices_EqualFuncasl_api_Segment_sl_api_Segment_api_Segment_api_Segment_at_path_Same_1 := ctRd_sound slices_EqualFuncasl_api_Segment_sl_api_Segment_api_Segment_api_Segment_at_path_Same_1_fq
def plan_path_Same : PPlan := ⟨[], [], [], [], [], []⟩
theorem k_path_Same : Known Try.prog f_path_Same Try.f16 plan_path_Same.plan (bodyOf Try.f16) := ⟨Try.func16, by kernel_rfl, by kernel_rfl, by kernel_rfl, by kernel_rfl, by kernel_rfl⟩
abbrev path_Same_ps : List Pk := [Pk.lst [Kd.bool, Kd.lst [Kd.int .u32]], Pk.lst [Kd.bool, Kd.lst [Kd.int .u32]]]
abbrev path_Same_rs : List Pk := [Pk.bool]
def path_Same_q (a0 : List (Bool × List UInt32)) (b1 : List (Bool × List UInt32)) (K : Bool → Prop) : Prop :=
 (WfPs slices_EqualFuncasl_api_Segment_sl_api_Segment_api_Segment_api_Segment_at_path_Same_1_ps (a0, b1, (), ()) →
 slices_EqualFuncasl_api_Segment_sl_api_Segment_api_Segment_api_Segment_at_path_Same_1_q a0 b1 (fun x7 =>
 WfPs slices_EqualFuncasl_api_Segment_sl_api_Segment_api_Segment_api_Segment_at_path_Same_1_rs (x7, ()) →
 K x7))
noncomputable def tab_path_Same : Tab := ⟨[(f_slices_EqualFuncasl_api_Segment_sl_api_Segment_api_Segment_api_Segment, ctDisp 2 [(f_path_Same_1, ct_slices_EqualFuncasl_api_Segment_sl_api_Segment_api_Segment_api_Segment_at_path_Same_1)])], []⟩
theorem path_Same_eq : (fun (x : PkTs path_Same_ps) (K : PkTs path_Same_rs → Prop) => path_Same_q x.1 x.2.1 (fun r0 => K (r0, ()))) = fun x K => PCode Try.prog tab_path_Same plan_path_Same (bodyOf Try.f16) (parS path_Same_ps x) (PRet Try.prog Try.f16.results.toList fun a st => outP path_Same_rs st a K) := by kernel_rfl
theorem path_Same_fq : FnQ Try.prog f_path_Same path_Same_ps path_Same_rs (fun x K => path_Same_q x.1 x.2.1 (fun r0 => K (r0, ()))) := (fnQ_of k_path_Same (tab := tab_path_Same) ⟨⟨ctDisp_sound ⟨ct_slices_EqualFuncasl_api_Segment_sl_api_Segment_api_Segment_api_Segment_at_path_Same_1_ok, trivial⟩, trivial⟩, trivial⟩ rfl).of_eq path_Same_eq
noncomputable def ct_path_Same : Ct := ctRd path_Same_ps path_Same_rs (fun x K => path_Same_q x.1 x.2.1 (fun r0 => K (r0, ())))
theorem ct_path_Same_ok : SoundCt Try.prog f_path_Same ct_path_Same := ctRd_sound path_Same_fq
def pl_slices_EqualFuncasl_api_Raw_sl_api_Raw_api_Raw_api_Raw_at_attr_Same_1_4 : PLoop := ⟨[(17, PK.int .i64)], [1, 2, 15, 16], []⟩
def plan_slices_EqualFuncasl_api_Raw_sl_api_Raw_api_Raw_api_Raw_at_attr_Same_1 : PPlan := ⟨[], [(4, pl_slices_EqualFuncasl_api_Raw_sl_api_Raw_api_Raw_api_Raw_at_attr_Same_1_4)], [], [], [], []⟩
theorem k_slices_EqualFuncasl_api_Raw_sl_api_Raw_api_Raw_api_Raw_at_attr_Same_1 : Known Try.prog f_slices_EqualFuncasl_api_Raw_sl_api_Raw_api_Raw_api_Raw Try.f18 plan_slices_EqualFuncasl_api_Raw_sl_api_Raw_api_Raw_api_Raw_at_attr_Same_1.plan (bodyOf Try.f18) := ⟨Try.func18, by kernel_rfl, by kernel_rfl, by kernel_rfl, by kernel_rfl, by kernel_rfl⟩
abbrev slices_EqualFuncasl_api_Raw_sl_api_Raw_api_Raw_api_Raw_at_attr_Same_1_ps : List Pk := [Pk.lst [Kd.int .i64, Kd.lst [Kd.int .u8]], Pk.lst [Kd.int .i64, Kd.lst [Kd.int .u8]], Pk.fn 13]
abbrev slices_EqualFuncasl_api_Raw_sl_api_Raw_api_Raw_api_Raw_at_attr_Same_1_rs : List Pk := [Pk.bool]
def slices_EqualFuncasl_api_Raw_sl_api_Raw_api_Raw_api_Raw_at_attr_Same_1_l4 (s21 : List (Int × List UInt8)) (s10 : List (Int × List UInt8)) (x17 : Int) (next4 : (Int × Unit) → Prop) (K : Bool → Prop) : Prop :=
 IfB (decide ((x17 : Int) < (s10.length : Int)))
 ((0 : Int) ≤ x17 ∧ AtN s10 x17.toNat fun x20 =>
 WfT ks_int_i64_lst_int_u8 x20 →
 (0 : Int) ≤ x17 ∧ AtN s21 x17.toNat fun x24 =>
 WfT ks_int_i64_lst_int_u8 x24 →
 (WfPs attr_Same_1_ps (x20, x24, ()) →
 attr_Same_1_q x20 x24 (fun x29 =>
 WfPs attr_Same_1_rs (x29, ()) →
 IfB (!x29)
 (K false)
 (next4 ((IntKind.wrap .i64 (x17 + 1)), ())))))
 (K true)
def slices_EqualFuncasl_api_Raw_sl_api_Raw_api_Raw_api_Raw_at_attr_Same_1_q (s10 : List (Int × List UInt8)) (s21 : List (Int × List UInt8)) (K : Bool → Prop) : Prop :=
 IfB (((s10.length : Int) : Int) != (s21.length : Int))
 (K false)
 (LoopJ (Int × Unit) ((0 : Int), ()) fun y next =>
 WfY pl_slices_EqualFuncasl_api_Raw_sl_api_Raw_api_Raw_api_Raw_at_attr_Same_1_4.kinds y →
 slices_EqualFuncasl_api_Raw_sl_api_Raw_api_Raw_api_Raw_at_attr_Same_1_l4 s21 s10 y.1 next K)
noncomputable def tab_slices_EqualFuncasl_api_Raw_sl_api_Raw_api_Raw_api_Raw_at_attr_Same_1 : Tab := ⟨[(f_attr_Same_1, ct_attr_Same_1)], []⟩
theorem slices_EqualFuncasl_api_Raw_sl_api_Raw_api_Raw_api_Raw_at_attr_Same_1_eq : (fun (x : PkTs slices_EqualFuncasl_api_Raw_sl_api_Raw_api_Raw_api_Raw_at_attr_Same_1_ps) (K : PkTs slices_EqualFuncasl_api_Raw_sl_api_Raw_api_Raw_api_Raw_at_attr_Same_1_rs → Prop) => slices_EqualFuncasl_api_Raw_sl_api_Raw_api_Raw_api_Raw_at_attr_Same_1_q x.1 x.2.1 (fun r0 => K (r0, ()))) = fun x K => PCode Try.prog tab_slices_EqualFuncasl_api_Raw_sl_api_Raw_api_Raw_api_Raw_at_attr_Same_1 plan_slices_EqualFuncasl_api_Raw_sl_api_Raw_api_Raw_api_Raw_at_attr_Same_1 (bodyOf Try.f18) (parS slices_EqualFuncasl_api_Raw_sl_api_Raw_api_Raw_api_Raw_at_attr_Same_1_ps x) (PRet Try.prog Try.f18.results.toList fun a st => outP slices_EqualFuncasl_api_Raw_sl_api_Raw_api_Raw_api_Raw_at_attr_Same_1_rs st a K) := by kernel_rfl
theorem slices_EqualFuncasl_api_Raw_sl_api_Raw_api_Raw_api_Raw_at_attr_Same_1_fq : FnQ Try.prog f_slices_EqualFuncasl_api_Raw_sl_api_Raw_api_Raw_api_Raw slices_EqualFuncasl_api_Raw_sl_api_Raw_api_Raw_api_Raw_at_attr_Same_1_ps slices_EqualFuncasl_api_Raw_sl_api_Raw_api_Raw_api_Raw_at_attr_Same_1_rs (fun x K => slices_EqualFuncasl_api_Raw_sl_api_Raw_api_Raw_api_Raw_at_attr_Same_1_q x.1 x.2.1 (fun r0 => K (r0, ()))) := (fnQ_of k_slices_EqualFuncasl_api_Raw_sl_api_Raw_api_Raw_api_Raw_at_attr_Same_1 (tab := tab_slices_EqualFuncasl_api_Raw_sl_api_Raw_api_Raw_api_Raw_at_attr_Same_1) ⟨⟨ct_attr_Same_1_ok, trivial⟩, trivial⟩ rfl).of_eq slices_EqualFuncasl_api_Raw_sl_api_Raw_api_Raw_api_Raw_at_attr_Same_1_eq
noncomputable def ct_slices_EqualFuncasl_api_Raw_sl_api_Raw_api_Raw_api_Raw_at_attr_Same_1 : Ct := ctRd slices_EqualFuncasl_api_Raw_sl_api_Raw_api_Raw_api_Raw_at_attr_Same_1_ps slices_EqualFuncasl_api_Raw_sl_api_Raw_api_Raw_api_Raw_at_attr_Same_1_rs (fun x K => slices_EqualFuncasl_api_Raw_sl_api_Raw_api_Raw_api_Raw_at_attr_Same_1_q x.1 x.2.1 (fun r0 => K (r0, ())))
theorem ct_slices_EqualFuncasl_api_Raw_sl_api_Raw_api_Raw_api_Raw_at_attr_Same_1_ok : SoundCt Try.prog f_slices_EqualFuncasl_api_Raw_sl_api_Raw_api_Raw_api_Raw ct_slices_EqualFuncasl_api_Raw_sl_api_Raw_api_Raw_api_Raw_at_attr_Same_1 := ctRd_sound slices_EqualFuncasl_api_Raw_sl_api_Raw_api_Raw_api_Raw_at_attr_Same_1_fq
def plan_attr_Same : PPlan := ⟨[], [], [], [], [], []⟩
theorem k_attr_Same : Known Try.prog f_attr_Same Try.f6 plan_attr_Same.plan (bodyOf Try.f6) := ⟨Try.func6, by kernel_rfl, by kernel_rfl, by kernel_rfl, by kernel_rfl, by kernel_rfl⟩
abbrev attr_Same_ps : List Pk := [Pk.agg [Kd.int .i64, Kd.lst [Kd.bool, Kd.lst [Kd.int .u32]], Kd.int .u32, Kd.bool, Kd.int .u32, Kd.bool, Kd.int .u32, Kd.bool, Kd.bool, Kd.int .u32, Kd.int .u32, Kd.lst [Kd.int .u32], Kd.lst [Kd.int .i64, Kd.lst [Kd.int .u8]]], Pk.agg [Kd.int .i64, Kd.lst [Kd.bool, Kd.lst [Kd.int .u32]], Kd.int .u32, Kd.bool, Kd.int .u32, Kd.bool, Kd.int .u32, Kd.bool, Kd.bool, Kd.int .u32, Kd.int .u32, Kd.lst [Kd.int .u32], Kd.lst [Kd.int .i64, Kd.lst [Kd.int .u8]]]]
abbrev attr_Same_rs : List Pk := [Pk.bool]
def attr_Same_j2 (a0 : Int × List (Bool × List UInt32) × UInt32 × Bool × UInt32 × Bool × UInt32 × Bool × Bool × UInt32 × UInt32 × List UInt32 × List (Int × List UInt8)) (b1 : Int × List (Bool × List UInt32) × UInt32 × Bool × UInt32 × Bool × UInt32 × Bool × Bool × UInt32 × UInt32 × List UInt32 × List (Int × List UInt8)) (j26_2 : Bool) (K : Bool → Prop) : Prop :=
 IfB j26_2
 (K false)
 ((WfPs path_Same_ps (a0.2.1, b1.2.1, ()) →
 path_Same_q a0.2.1 b1.2.1 (fun x74 =>
 WfPs path_Same_rs (x74, ()) →
 IfB x74
 ((WfPs slices_Equalasl_uint32_uint32_ps (a0.2.2.2.2.2.2.2.2.2.2.2.1, b1.2.2.2.2.2.2.2.2.2.2.2.1, ()) →
 slices_Equalasl_uint32_uint32_q a0.2.2.2.2.2.2.2.2.2.2.2.1 b1.2.2.2.2.2.2.2.2.2.2.2.1 (fun x80 =>
 WfPs slices_Equalasl_uint32_uint32_rs (x80, ()) →
 IfB x80
 ((WfPs slices_EqualFuncasl_api_Raw_sl_api_Raw_api_Raw_api_Raw_at_attr_Same_1_ps (a0.2.2.2.2.2.2.2.2.2.2.2.2, b1.2.2.2.2.2.2.2.2.2.2.2.2, (), ()) →
 slices_EqualFuncasl_api_Raw_sl_api_Raw_api_Raw_api_Raw_at_attr_Same_1_q a0.2.2.2.2.2.2.2.2.2.2.2.2 b1.2.2.2.2.2.2.2.2.2.2.2.2 (fun x88 =>
 WfPs slices_EqualFuncasl_api_Raw_sl_api_Raw_api_Raw_api_Raw_at_attr_Same_1_rs (x88, ()) →
 K x88)))
 (K false))))
 (K false))))
def attr_Same_j1 (a0 : Int × List (Bool × List UInt32) × UInt32 × Bool × UInt32 × Bool × UInt32 × Bool × Bool × UInt32 × UInt32 × List UInt32 × List (Int × List UInt8)) (b1 : Int × List (Bool × List UInt32) × UInt32 × Bool × UInt32 × Bool × UInt32 × Bool × Bool × UInt32 × UInt32 × List UInt32 × List (Int × List UInt8)) (j26_1 : Bool) (K : Bool → Prop) : Prop :=
 IfB j26_1
 (K false)
 (IfB (((a0.2.2.2.2.2.2.2.2.2.1.toNat : Int) : Int) == (b1.2.2.2.2.2.2.2.2.2.1.toNat : Int))
 ((WfPs attr_perhaps_ps (a0.2.2.2.2.2.2.2.2.1, b1.2.2.2.2.2.2.2.2.1, (((a0.2.2.2.2.2.2.2.2.2.2.1.toNat : Int) : Int) == (b1.2.2.2.2.2.2.2.2.2.2.1.toNat : Int)), ()) →
 attr_perhaps_q a0.2.2.2.2.2.2.2.2.1 b1.2.2.2.2.2.2.2.2.1 (((a0.2.2.2.2.2.2.2.2.2.2.1.toNat : Int) : Int) == (b1.2.2.2.2.2.2.2.2.2.2.1.toNat : Int)) (fun x68 =>
 WfPs attr_perhaps_rs (x68, ()) →
 attr_Same_j2 a0 b1 (!x68) K)))
 ((WfPs attr_perhaps_ps (a0.2.2.2.2.2.2.2.2.1, b1.2.2.2.2.2.2.2.2.1, false, ()) →
 attr_perhaps_q a0.2.2.2.2.2.2.2.2.1 b1.2.2.2.2.2.2.2.2.1 false (fun x68_1 =>
 WfPs attr_perhaps_rs (x68_1, ()) →
 attr_Same_j2 a0 b1 (!x68_1) K))))
def attr_Same_j0 (a0 : Int × List (Bool × List UInt32) × UInt32 × Bool × UInt32 × Bool × UInt32 × Bool × Bool × UInt32 × UInt32 × List UInt32 × List (Int × List UInt8)) (b1 : Int × List (Bool × List UInt32) × UInt32 × Bool × UInt32 × Bool × UInt32 × Bool × Bool × UInt32 × UInt32 × List UInt32 × List (Int × List UInt8)) (j26 : Bool) (K : Bool → Prop) : Prop :=
 IfB j26
 (K false)
 ((WfPs attr_perhaps_ps (a0.2.2.2.1, b1.2.2.2.1, (((a0.2.2.2.2.1.toNat : Int) : Int) == (b1.2.2.2.2.1.toNat : Int)), ()) →
 attr_perhaps_q a0.2.2.2.1 b1.2.2.2.1 (((a0.2.2.2.2.1.toNat : Int) : Int) == (b1.2.2.2.2.1.toNat : Int)) (fun x36 =>
 WfPs attr_perhaps_rs (x36, ()) →
 IfB (!x36)
 (attr_Same_j1 a0 b1 true K)
 ((WfPs attr_perhaps_ps (a0.2.2.2.2.2.1, b1.2.2.2.2.2.1, (((a0.2.2.2.2.2.2.1.toNat : Int) : Int) == (b1.2.2.2.2.2.2.1.toNat : Int)), ()) →
 attr_perhaps_q a0.2.2.2.2.2.1 b1.2.2.2.2.2.1 (((a0.2.2.2.2.2.2.1.toNat : Int) : Int) == (b1.2.2.2.2.2.2.1.toNat : Int)) (fun x48 =>
 WfPs attr_perhaps_rs (x48, ()) →
 attr_Same_j1 a0 b1 (!x48) K))))))
def attr_Same_q (a0 : Int × List (Bool × List UInt32) × UInt32 × Bool × UInt32 × Bool × UInt32 × Bool × Bool × UInt32 × UInt32 × List UInt32 × List (Int × List UInt8)) (b1 : Int × List (Bool × List UInt32) × UInt32 × Bool × UInt32 × Bool × UInt32 × Bool × Bool × UInt32 × UInt32 × List UInt32 × List (Int × List UInt8)) (K : Bool → Prop) : Prop :=
 IfB ((a0.1 : Int) != b1.1)
 (attr_Same_j0 a0 b1 true K)
 (IfB (((a0.2.2.1.toNat : Int) : Int) != (b1.2.2.1.toNat : Int))
 (attr_Same_j0 a0 b1 true K)
 (attr_Same_j0 a0 b1 (!(a0.2.2.2.2.2.2.2.1 == b1.2.2.2.2.2.2.2.1)) K))
noncomputable def tab_attr_Same : Tab := ⟨[(f_attr_perhaps, ct_attr_perhaps), (f_path_Same, ct_path_Same), (f_slices_Equalasl_uint32_uint32, ct_slices_Equalasl_uint32_uint32), (f_slices_EqualFuncasl_api_Raw_sl_api_Raw_api_Raw_api_Raw, ctDisp 2 [(f_attr_Same_1, ct_slices_EqualFuncasl_api_Raw_sl_api_Raw_api_Raw_api_Raw_at_attr_Same_1)])], []⟩
theorem attr_Same_eq : (fun (x : PkTs attr_Same_ps) (K : PkTs attr_Same_rs → Prop) => attr_Same_q x.1 x.2.1 (fun r0 => K (r0, ()))) = fun x K => PCode Try.prog tab_attr_Same plan_attr_Same (bodyOf Try.f6) (parS attr_Same_ps x) (PRet Try.prog Try.f6.results.toList fun a st => outP attr_Same_rs st a K) := by kernel_rfl
theorem attr_Same_fq : FnQ Try.prog f_attr_Same attr_Same_ps attr_Same_rs (fun x K => attr_Same_q x.1 x.2.1 (fun r0 => K (r0, ()))) := (fnQ_of k_attr_Same (tab := tab_attr_Same) ⟨⟨ct_attr_perhaps_ok, ct_path_Same_ok, ct_slices_Equalasl_uint32_uint32_ok, ctDisp_sound ⟨ct_slices_EqualFuncasl_api_Raw_sl_api_Raw_api_Raw_api_Raw_at_attr_Same_1_ok, trivial⟩, trivial⟩, trivial⟩ rfl).of_eq attr_Same_eq
noncomputable def ct_attr_Same : Ct := ctRd attr_Same_ps attr_Same_rs (fun x K => attr_Same_q x.1 x.2.1 (fun r0 => K (r0, ())))
theorem ct_attr_Same_ok : SoundCt Try.prog f_attr_Same ct_attr_Same := ctRd_sound attr_Same_fq
def pl_ref19_Same_4 : PLoop := ⟨[(5, PK.int .i64)], [0, 1], []⟩
def pl_ref19_Same_9 : PLoop := ⟨[(6, PK.int .i64)], [0, 1, 5], []⟩
def plan_ref19_Same : PPlan := ⟨[], [(4, pl_ref19_Same_4), (9, pl_ref19_Same_9)], [], [], [], []⟩
theorem k_ref19_Same : Known Try.prog f_ref19_Same Try.f19 plan_ref19_Same.plan (bodyOf Try.f19) := ⟨Try.func19, by kernel_rfl, by kernel_rfl, by kernel_rfl, by kernel_rfl, by kernel_rfl⟩
abbrev ref19_Same_ps : List Pk := [Pk.lst [Kd.bool, Kd.lst [Kd.int .u32]], Pk.lst [Kd.bool, Kd.lst [Kd.int .u32]]]
abbrev ref19_Same_rs : List Pk := [Pk.bool]
def ref19_Same_l9 (a0 : List (Bool × List UInt32)) (b1 : List (Bool × List UInt32)) (i5 : Int) (next4 : (Int × Unit) → Prop) (k6 : Int) (next9 : (Int × Unit) → Prop) (K : Bool → Prop) : Prop :=
 (0 : Int) ≤ i5 ∧ AtN a0 i5.toNat fun x47 =>
 WfT ks_bool_lst_int_u32 x47 →
 IfB (decide ((k6 : Int) < (x47.2.length : Int)))
 ((0 : Int) ≤ i5 ∧ AtN a0 i5.toNat fun x56 =>
 WfT ks_bool_lst_int_u32 x56 →
 (0 : Int) ≤ k6 ∧ AtN x56.2 k6.toNat fun x60 =>
 WfT ks_int_u32 x60 →
 (0 : Int) ≤ i5 ∧ AtN b1 i5.toNat fun x64 =>
 WfT ks_bool_lst_int_u32 x64 →
 (0 : Int) ≤ k6 ∧ AtN x64.2 k6.toNat fun x68 =>
 WfT ks_int_u32 x68 →
 IfB (((x60.toNat : Int) : Int) != (x68.toNat : Int))
 (K false)
 (next9 ((IntKind.wrap .i64 (k6 + 1)), ())))
 (next4 ((IntKind.wrap .i64 (i5 + 1)), ()))
def ref19_Same_j0 (a0 : List (Bool × List UInt32)) (b1 : List (Bool × List UInt32)) (i5 : Int) (next4 : (Int × Unit) → Prop) (j3 : Bool) (K : Bool → Prop) : Prop :=
 IfB j3
 (K false)
 (LoopJ (Int × Unit) ((0 : Int), ()) fun y next =>
 WfY pl_ref19_Same_9.kinds y →
 ref19_Same_l9 a0 b1 i5 next4 y.1 next K)
def ref19_Same_l4 (a0 : List (Bool × List UInt32)) (b1 : List (Bool × List UInt32)) (i5 : Int) (next4 : (Int × Unit) → Prop) (K : Bool → Prop) : Prop :=
 IfB (decide ((i5 : Int) < (a0.length : Int)))
 ((0 : Int) ≤ i5 ∧ AtN a0 i5.toNat fun x20 =>
 WfT ks_bool_lst_int_u32 x20 →
 (0 : Int) ≤ i5 ∧ AtN b1 i5.toNat fun x25 =>
 WfT ks_bool_lst_int_u32 x25 →
 IfB (!(x20.1 == x25.1))
 (ref19_Same_j0 a0 b1 i5 next4 true K)
 ((0 : Int) ≤ i5 ∧ AtN a0 i5.toNat fun x32 =>
 WfT ks_bool_lst_int_u32 x32 →
 (0 : Int) ≤ i5 ∧ AtN b1 i5.toNat fun x38 =>
 WfT ks_bool_lst_int_u32 x38 →
 ref19_Same_j0 a0 b1 i5 next4 (((x32.2.length : Int) : Int) != (x38.2.length : Int)) K))
 (K true)
def ref19_Same_q (a0 : List (Bool × List UInt32)) (b1 : List (Bool × List UInt32)) (K : Bool → Prop) : Prop :=
 IfB (((a0.length : Int) : Int) != (b1.length : Int))
 (K false)
 (LoopJ (Int × Unit) ((0 : Int), ()) fun y next =>
 WfY pl_ref19_Same_4.kinds y →
 ref19_Same_l4 a0 b1 y.1 next K)
noncomputable def tab_ref19_Same : Tab := ⟨[], []⟩
theorem ref19_Same_eq : (fun (x : PkTs ref19_Same_ps) (K : PkTs ref19_Same_rs → Prop) => ref19_Same_q x.1 x.2.1 (fun r0 => K (r0, ()))) = fun x K => PCode Try.prog tab_ref19_Same plan_ref19_Same (bodyOf Try.f19) (parS ref19_Same_ps x) (PRet Try.prog Try.f19.results.toList fun a st => outP ref19_Same_rs st a K) := by kernel_rfl
theorem ref19_Same_fq : FnQ Try.prog f_ref19_Same ref19_Same_ps ref19_Same_rs (fun x K => ref19_Same_q x.1 x.2.1 (fun r0 => K (r0, ()))) := (fnQ_of k_ref19_Same (tab := tab_ref19_Same) ⟨trivial, trivial⟩ rfl).of_eq ref19_Same_eq
noncomputable def ct_ref19_Same : Ct := ctRd ref19_Same_ps ref19_Same_rs (fun x K => ref19_Same_q x.1 x.2.1 (fun r0 => K (r0, ())))
theorem ct_ref19_Same_ok : SoundCt Try.prog f_ref19_Same ct_ref19_Same := ctRd_sound ref19_Same_fq
def pl_ref20_Same_4 : PLoop := ⟨[(5, PK.int .i64)], [2, 3], []⟩
def pl_ref20_Same_9 : PLoop := ⟨[(6, PK.int .i64)], [2, 3], []⟩
def plan_ref20_Same : PPlan := ⟨[], [(4, pl_ref20_Same_4), (9, pl_ref20_Same_9)], [], [], [], []⟩
theorem k_ref20_Same : Known Try.prog f_ref20_Same Try.f7 plan_ref20_Same.plan (bodyOf Try.f7) := ⟨Try.func7, by kernel_rfl, by kernel_rfl, by kernel_rfl, by kernel_rfl, by kernel_rfl⟩
abbrev ref20_Same_ps : List Pk := [Pk.agg [Kd.int .i64, Kd.lst [Kd.bool, Kd.lst [Kd.int .u32]], Kd.int .u32, Kd.bool, Kd.int .u32, Kd.bool, Kd.int .u32, Kd.bool, Kd.bool, Kd.int .u32, Kd.int .u32, Kd.lst [Kd.int .u32], Kd.lst [Kd.int .i64, Kd.lst [Kd.int .u8]]], Pk.agg [Kd.int .i64, Kd.lst [Kd.bool, Kd.lst [Kd.int .u32]], Kd.int .u32, Kd.bool, Kd.int .u32, Kd.bool, Kd.int .u32, Kd.bool, Kd.bool, Kd.int .u32, Kd.int .u32, Kd.lst [Kd.int .u32], Kd.lst [Kd.int .i64, Kd.lst [Kd.int .u8]]]]
abbrev ref20_Same_rs : List Pk := [Pk.bool]
def ref20_Same_j1 (a0 : Int × List (Bool × List UInt32) × UInt32 × Bool × UInt32 × Bool × UInt32 × Bool × Bool × UInt32 × UInt32 × List UInt32 × List (Int × List UInt8)) (b1 : Int × List (Bool × List UInt32) × UInt32 × Bool × UInt32 × Bool × UInt32 × Bool × Bool × UInt32 × UInt32 × List UInt32 × List (Int × List UInt8)) (i6 : Int) (next9 : (Int × Unit) → Prop) (j27 : Bool) (K : Bool → Prop) : Prop :=
 IfB j27
 (K false)
 (next9 ((IntKind.wrap .i64 (i6 + 1)), ()))
def ref20_Same_l9 (a0 : Int × List (Bool × List UInt32) × UInt32 × Bool × UInt32 × Bool × UInt32 × Bool × Bool × UInt32 × UInt32 × List UInt32 × List (Int × List UInt8)) (b1 : Int × List (Bool × List UInt32) × UInt32 × Bool × UInt32 × Bool × UInt32 × Bool × Bool × UInt32 × UInt32 × List UInt32 × List (Int × List UInt8)) (i6 : Int) (next9 : (Int × Unit) → Prop) (K : Bool → Prop) : Prop :=
 IfB (decide ((i6 : Int) < (a0.2.2.2.2.2.2.2.2.2.2.2.2.length : Int)))
 ((0 : Int) ≤ i6 ∧ AtN a0.2.2.2.2.2.2.2.2.2.2.2.2 i6.toNat fun x141 =>
 WfT ks_int_i64_lst_int_u8 x141 →
 (0 : Int) ≤ i6 ∧ AtN b1.2.2.2.2.2.2.2.2.2.2.2.2 i6.toNat fun x147 =>
 WfT ks_int_i64_lst_int_u8 x147 →
 IfB ((x141.1 : Int) != x147.1)
 (ref20_Same_j1 a0 b1 i6 next9 true K)
 ((0 : Int) ≤ i6 ∧ AtN a0.2.2.2.2.2.2.2.2.2.2.2.2 i6.toNat fun x155 =>
 WfT ks_int_i64_lst_int_u8 x155 →
 (0 : Int) ≤ i6 ∧ AtN b1.2.2.2.2.2.2.2.2.2.2.2.2 i6.toNat fun x162 =>
 WfT ks_int_i64_lst_int_u8 x162 →
 ref20_Same_j1 a0 b1 i6 next9 (!(x155.2 == x162.2)) K))
 (K true)
def ref20_Same_l4 (a0 : Int × List (Bool × List UInt32) × UInt32 × Bool × UInt32 × Bool × UInt32 × Bool × Bool × UInt32 × UInt32 × List UInt32 × List (Int × List UInt8)) (b1 : Int × List (Bool × List UInt32) × UInt32 × Bool × UInt32 × Bool × UInt32 × Bool × Bool × UInt32 × UInt32 × List UInt32 × List (Int × List UInt8)) (i5 : Int) (next4 : (Int × Unit) → Prop) (K : Bool → Prop) : Prop :=
 IfB (decide ((i5 : Int) < (a0.2.2.2.2.2.2.2.2.2.2.2.1.length : Int)))
 ((0 : Int) ≤ i5 ∧ AtN a0.2.2.2.2.2.2.2.2.2.2.2.1 i5.toNat fun x123 =>
 WfT ks_int_u32 x123 →
 (0 : Int) ≤ i5 ∧ AtN b1.2.2.2.2.2.2.2.2.2.2.2.1 i5.toNat fun x128 =>
 WfT ks_int_u32 x128 →
 IfB (((x123.toNat : Int) : Int) != (x128.toNat : Int))
 (K false)
 (next4 ((IntKind.wrap .i64 (i5 + 1)), ())))
 (LoopJ (Int × Unit) ((0 : Int), ()) fun y next =>
 WfY pl_ref20_Same_9.kinds y →
 ref20_Same_l9 a0 b1 y.1 next K)
def ref20_Same_j0 (a0 : Int × List (Bool × List UInt32) × UInt32 × Bool × UInt32 × Bool × UInt32 × Bool × Bool × UInt32 × UInt32 × List UInt32 × List (Int × List UInt8)) (b1 : Int × List (Bool × List UInt32) × UInt32 × Bool × UInt32 × Bool × UInt32 × Bool × Bool × UInt32 × UInt32 × List UInt32 × List (Int × List UInt8)) (j26 : Bool) (K : Bool → Prop) : Prop :=
 IfB j26
 (K false)
 (LoopJ (Int × Unit) ((0 : Int), ()) fun y next =>
 WfY pl_ref20_Same_4.kinds y →
 ref20_Same_l4 a0 b1 y.1 next K)
def ref20_Same_q (a0 : Int × List (Bool × List UInt32) × UInt32 × Bool × UInt32 × Bool × UInt32 × Bool × Bool × UInt32 × UInt32 × List UInt32 × List (Int × List UInt8)) (b1 : Int × List (Bool × List UInt32) × UInt32 × Bool × UInt32 × Bool × UInt32 × Bool × Bool × UInt32 × UInt32 × List UInt32 × List (Int × List UInt8)) (K : Bool → Prop) : Prop :=
 IfB ((a0.1 : Int) != b1.1)
 (ref20_Same_j0 a0 b1 true K)
 ((WfPs ref19_Same_ps (a0.2.1, b1.2.1, ()) →
 ref19_Same_q a0.2.1 b1.2.1 (fun x17 =>
 WfPs ref19_Same_rs (x17, ()) →
 IfB (!x17)
 (ref20_Same_j0 a0 b1 true K)
 (IfB (((a0.2.2.1.toNat : Int) : Int) != (b1.2.2.1.toNat : Int))
 (ref20_Same_j0 a0 b1 true K)
 (IfB (!(a0.2.2.2.1 == b1.2.2.2.1))
 (ref20_Same_j0 a0 b1 true K)
 (IfB a0.2.2.2.1
 (IfB (((a0.2.2.2.2.1.toNat : Int) : Int) != (b1.2.2.2.2.1.toNat : Int))
 (ref20_Same_j0 a0 b1 true K)
 (IfB (!(a0.2.2.2.2.2.1 == b1.2.2.2.2.2.1))
 (ref20_Same_j0 a0 b1 true K)
 (IfB a0.2.2.2.2.2.1
 (IfB (((a0.2.2.2.2.2.2.1.toNat : Int) : Int) != (b1.2.2.2.2.2.2.1.toNat : Int))
 (ref20_Same_j0 a0 b1 true K)
 (IfB (!(a0.2.2.2.2.2.2.2.1 == b1.2.2.2.2.2.2.2.1))
 (ref20_Same_j0 a0 b1 true K)
 (IfB (!(a0.2.2.2.2.2.2.2.2.1 == b1.2.2.2.2.2.2.2.2.1))
 (ref20_Same_j0 a0 b1 true K)
 (IfB a0.2.2.2.2.2.2.2.2.1
 (IfB (((a0.2.2.2.2.2.2.2.2.2.1.toNat : Int) : Int) != (b1.2.2.2.2.2.2.2.2.2.1.toNat : Int))
 (ref20_Same_j0 a0 b1 true K)
 (IfB (((a0.2.2.2.2.2.2.2.2.2.2.1.toNat : Int) : Int) != (b1.2.2.2.2.2.2.2.2.2.2.1.toNat : Int))
 (ref20_Same_j0 a0 b1 true K)
 (IfB (((a0.2.2.2.2.2.2.2.2.2.2.2.1.length : Int) : Int) != (b1.2.2.2.2.2.2.2.2.2.2.2.1.length : Int))
 (ref20_Same_j0 a0 b1 true K)
 (ref20_Same_j0 a0 b1 (((a0.2.2.2.2.2.2.2.2.2.2.2.2.length : Int) : Int) != (b1.2.2.2.2.2.2.2.2.2.2.2.2.length : Int)) K))))
 (IfB (((a0.2.2.2.2.2.2.2.2.2.2.2.1.length : Int) : Int) != (b1.2.2.2.2.2.2.2.2.2.2.2.1.length : Int))
 (ref20_Same_j0 a0 b1 true K)
 (ref20_Same_j0 a0 b1 (((a0.2.2.2.2.2.2.2.2.2.2.2.2.length : Int) : Int) != (b1.2.2.2.2.2.2.2.2.2.2.2.2.length : Int)) K))))))
 (IfB (!(a0.2.2.2.2.2.2.2.1 == b1.2.2.2.2.2.2.2.1))
 (ref20_Same_j0 a0 b1 true K)
 (IfB (!(a0.2.2.2.2.2.2.2.2.1 == b1.2.2.2.2.2.2.2.2.1))
 (ref20_Same_j0 a0 b1 true K)
 (IfB a0.2.2.2.2.2.2.2.2.1
 (IfB (((a0.2.2.2.2.2.2.2.2.2.1.toNat : Int) : Int) != (b1.2.2.2.2.2.2.2.2.2.1.toNat : Int))
 (ref20_Same_j0 a0 b1 true K)
 (IfB (((a0.2.2.2.2.2.2.2.2.2.2.1.toNat : Int) : Int) != (b1.2.2.2.2.2.2.2.2.2.2.1.toNat : Int))
 (ref20_Same_j0 a0 b1 true K)
 (IfB (((a0.2.2.2.2.2.2.2.2.2.2.2.1.length : Int) : Int) != (b1.2.2.2.2.2.2.2.2.2.2.2.1.length : Int))
 (ref20_Same_j0 a0 b1 true K)
 (ref20_Same_j0 a0 b1 (((a0.2.2.2.2.2.2.2.2.2.2.2.2.length : Int) : Int) != (b1.2.2.2.2.2.2.2.2.2.2.2.2.length : Int)) K))))
 (IfB (((a0.2.2.2.2.2.2.2.2.2.2.2.1.length : Int) : Int) != (b1.2.2.2.2.2.2.2.2.2.2.2.1.length : Int))
 (ref20_Same_j0 a0 b1 true K)
 (ref20_Same_j0 a0 b1 (((a0.2.2.2.2.2.2.2.2.2.2.2.2.length : Int) : Int) != (b1.2.2.2.2.2.2.2.2.2.2.2.2.length : Int)) K))))))))
 (IfB (!(a0.2.2.2.2.2.1 == b1.2.2.2.2.2.1))
 (ref20_Same_j0 a0 b1 true K)
 (IfB a0.2.2.2.2.2.1
 (IfB (((a0.2.2.2.2.2.2.1.toNat : Int) : Int) != (b1.2.2.2.2.2.2.1.toNat : Int))
 (ref20_Same_j0 a0 b1 true K)
 (IfB (!(a0.2.2.2.2.2.2.2.1 == b1.2.2.2.2.2.2.2.1))
 (ref20_Same_j0 a0 b1 true K)
 (IfB (!(a0.2.2.2.2.2.2.2.2.1 == b1.2.2.2.2.2.2.2.2.1))
 (ref20_Same_j0 a0 b1 true K)
 (IfB a0.2.2.2.2.2.2.2.2.1
 (IfB (((a0.2.2.2.2.2.2.2.2.2.1.toNat : Int) : Int) != (b1.2.2.2.2.2.2.2.2.2.1.toNat : Int))
 (ref20_Same_j0 a0 b1 true K)
 (IfB (((a0.2.2.2.2.2.2.2.2.2.2.1.toNat : Int) : Int) != (b1.2.2.2.2.2.2.2.2.2.2.1.toNat : Int))
 (ref20_Same_j0 a0 b1 true K)
 (IfB (((a0.2.2.2.2.2.2.2.2.2.2.2.1.length : Int) : Int) != (b1.2.2.2.2.2.2.2.2.2.2.2.1.length : Int))
 (ref20_Same_j0 a0 b1 true K)
 (ref20_Same_j0 a0 b1 (((a0.2.2.2.2.2.2.2.2.2.2.2.2.length : Int) : Int) != (b1.2.2.2.2.2.2.2.2.2.2.2.2.length : Int)) K))))
 (IfB (((a0.2.2.2.2.2.2.2.2.2.2.2.1.length : Int) : Int) != (b1.2.2.2.2.2.2.2.2.2.2.2.1.length : Int))
 (ref20_Same_j0 a0 b1 true K)
 (ref20_Same_j0 a0 b1 (((a0.2.2.2.2.2.2.2.2.2.2.2.2.length : Int) : Int) != (b1.2.2.2.2.2.2.2.2.2.2.2.2.length : Int)) K))))))
 (IfB (!(a0.2.2.2.2.2.2.2.1 == b1.2.2.2.2.2.2.2.1))
 (ref20_Same_j0 a0 b1 true K)
 (IfB (!(a0.2.2.2.2.2.2.2.2.1 == b1.2.2.2.2.2.2.2.2.1))
 (ref20_Same_j0 a0 b1 true K)
 (IfB a0.2.2.2.2.2.2.2.2.1
 (IfB (((a0.2.2.2.2.2.2.2.2.2.1.toNat : Int) : Int) != (b1.2.2.2.2.2.2.2.2.2.1.toNat : Int))
 (ref20_Same_j0 a0 b1 true K)
 (IfB (((a0.2.2.2.2.2.2.2.2.2.2.1.toNat : Int) : Int) != (b1.2.2.2.2.2.2.2.2.2.2.1.toNat : Int))
 (ref20_Same_j0 a0 b1 true K)
 (IfB (((a0.2.2.2.2.2.2.2.2.2.2.2.1.length : Int) : Int) != (b1.2.2.2.2.2.2.2.2.2.2.2.1.length : Int))
 (ref20_Same_j0 a0 b1 true K)
 (ref20_Same_j0 a0 b1 (((a0.2.2.2.2.2.2.2.2.2.2.2.2.length : Int) : Int) != (b1.2.2.2.2.2.2.2.2.2.2.2.2.length : Int)) K))))
 (IfB (((a0.2.2.2.2.2.2.2.2.2.2.2.1.length : Int) : Int) != (b1.2.2.2.2.2.2.2.2.2.2.2.1.length : Int))
 (ref20_Same_j0 a0 b1 true K)
 (ref20_Same_j0 a0 b1 (((a0.2.2.2.2.2.2.2.2.2.2.2.2.length : Int) : Int) != (b1.2.2.2.2.2.2.2.2.2.2.2.2.length : Int)) K)))))))))))))
noncomputable def tab_ref20_Same : Tab := ⟨[(f_ref19_Same, ct_ref19_Same)], []⟩
theorem ref20_Same_eq : (fun (x : PkTs ref20_Same_ps) (K : PkTs ref20_Same_rs → Prop) => ref20_Same_q x.1 x.2.1 (fun r0 => K (r0, ()))) = fun x K => PCode Try.prog tab_ref20_Same plan_ref20_Same (bodyOf Try.f7) (parS ref20_Same_ps x) (PRet Try.prog Try.f7.results.toList fun a st => outP ref20_Same_rs st a K) := by kernel_rfl
theorem ref20_Same_fq : FnQ Try.prog f_ref20_Same ref20_Same_ps ref20_Same_rs (fun x K => ref20_Same_q x.1 x.2.1 (fun r0 => K (r0, ()))) := (fnQ_of k_ref20_Same (tab := tab_ref20_Same) ⟨⟨ct_ref19_Same_ok, trivial⟩, trivial⟩ rfl).of_eq ref20_Same_eq
noncomputable def ct_ref20_Same : Ct := ctRd ref20_Same_ps ref20_Same_rs (fun x K => ref20_Same_q x.1 x.2.1 (fun r0 => K (r0, ())))
theorem ct_ref20_Same_ok : SoundCt Try.prog f_ref20_Same ct_ref20_Same := ctRd_sound ref20_Same_fq
def pl_ref19_Copy_3 : PLoop := ⟨[(3, PK.row T_api_Segment [Kd.bool, Kd.lst [Kd.int .u32]]), (4, PK.int .i64)], [0], []⟩
def plan_ref19_Copy : PPlan := ⟨[(5, [0, 1, 2, 3, 4, 5, 6, 7, 8, 9, 10, 11, 12, 13, 14, 15, 16], [17])], [(3, pl_ref19_Copy_3)], [], [], [], []⟩
theorem k_ref19_Copy : Known Try.prog f_ref19_Copy Try.f9 plan_ref19_Copy.plan (bodyOf Try.f9) := ⟨Try.func9, by kernel_rfl, by kernel_rfl, by kernel_rfl, by kernel_rfl, by kernel_rfl⟩
abbrev ref19_Copy_ps : List Pk := [Pk.lst [Kd.bool, Kd.lst [Kd.int .u32]]]
abbrev ref19_Copy_rs : List Pk := [Pk.own T_api_Segment [Kd.bool, Kd.lst [Kd.int .u32]]]
def ref19_Copy_l3 (p0 : List (Bool × List UInt32)) (out3 : List (Bool × List UInt32)) (i4 : Int) (next3 : (List (Bool × List UInt32) × Int × Unit) → Prop) (K : List (Bool × List UInt32) → Prop) : Prop :=
 IfB (decide ((i4 : Int) < (p0.length : Int)))
 ((0 : Int) ≤ i4 ∧ AtN p0 i4.toNat fun x15 =>
 WfT ks_bool_lst_int_u32 x15 →
 (0 : Int) ≤ i4 ∧ AtN p0 i4.toNat fun x21 =>
 WfT ks_bool_lst_int_u32 x21 →
 ([] : List UInt32).length + x21.2.length ≤ 35184372088736 ∧
 out3.length + ([(x15.1, (([] : List UInt32) ++ x21.2))] : List (Bool × List UInt32)).length ≤ 4398046511008 ∧
 next3 ((out3 ++ ([(x15.1, (([] : List UInt32) ++ x21.2))] : List (Bool × List UInt32))), (IntKind.wrap .i64 (i4 + 1)), ()))
 (K out3)
def ref19_Copy_q (p0 : List (Bool × List UInt32)) (K : List (Bool × List UInt32) → Prop) : Prop :=
 LoopJ (List (Bool × List UInt32) × Int × Unit) (([] : List (Bool × List UInt32)), (0 : Int), ()) fun y next =>
 WfY pl_ref19_Copy_3.kinds y →
 ref19_Copy_l3 p0 y.1 y.2.1 next K
noncomputable def tab_ref19_Copy : Tab := ⟨[], []⟩
theorem ref19_Copy_eq : (fun (x : PkTs ref19_Copy_ps) (K : PkTs ref19_Copy_rs → Prop) => ref19_Copy_q x.1 (fun r0 => K (r0, ()))) = fun x K => PCode Try.prog tab_ref19_Copy plan_ref19_Copy (bodyOf Try.f9) (parS ref19_Copy_ps x) (PRet Try.prog Try.f9.results.toList fun a st => outP ref19_Copy_rs st a K) := by kernel_rfl
theorem ref19_Copy_fq : FnQ Try.prog f_ref19_Copy ref19_Copy_ps ref19_Copy_rs (fun x K => ref19_Copy_q x.1 (fun r0 => K (r0, ()))) := (fnQ_of k_ref19_Copy (tab := tab_ref19_Copy) ⟨trivial, trivial⟩ rfl).of_eq ref19_Copy_eq
noncomputable def ct_ref19_Copy : Ct := ctVal ref19_Copy_ps ref19_Copy_rs (fun x K => ref19_Copy_q x.1 (fun r0 => K (r0, ())))
theorem ct_ref19_Copy_ok : SoundCt Try.prog f_ref19_Copy ct_ref19_Copy := ctVal_sound ref19_Copy_fq
def pl_ref20_Copy_6 : PLoop := ⟨[(4, PK.int .i64)], [1, 2, 3], [(3, [PK.int .i64, PK.row T_api_Segment [Kd.bool, Kd.lst [Kd.int .u32]], PK.int .u32, PK.bool, PK.int .u32, PK.bool, PK.int .u32, PK.bool, PK.bool, PK.int .u32, PK.int .u32, PK.row T_uint32 [Kd.int .u32], PK.row T_api_Raw [Kd.int .i64, Kd.lst [Kd.int .u8]]])]⟩
def plan_ref20_Copy : PPlan := ⟨[(8, [0, 1, 2, 3, 4, 5, 6, 7, 8, 9, 10, 11, 12, 13, 14, 15, 16, 17, 18, 19, 20], [25, 27, 31])], [(6, pl_ref20_Copy_6)], [], [], [], []⟩
theorem k_ref20_Copy : Known Try.prog f_ref20_Copy Try.f10 plan_ref20_Copy.plan (bodyOf Try.f10) := ⟨Try.func10, by kernel_rfl, by kernel_rfl, by kernel_rfl, by kernel_rfl, by kernel_rfl⟩
abbrev ref20_Copy_ps : List Pk := [Pk.agg [Kd.int .i64, Kd.lst [Kd.bool, Kd.lst [Kd.int .u32]], Kd.int .u32, Kd.bool, Kd.int .u32, Kd.bool, Kd.int .u32, Kd.bool, Kd.bool, Kd.int .u32, Kd.int .u32, Kd.lst [Kd.int .u32], Kd.lst [Kd.int .i64, Kd.lst [Kd.int .u8]]]]
abbrev ref20_Copy_rs : List Pk := [Pk.agg [Kd.int .i64, Kd.lst [Kd.bool, Kd.lst [Kd.int .u32]], Kd.int .u32, Kd.bool, Kd.int .u32, Kd.bool, Kd.int .u32, Kd.bool, Kd.bool, Kd.int .u32, Kd.int .u32, Kd.lst [Kd.int .u32], Kd.lst [Kd.int .i64, Kd.lst [Kd.int .u8]]]]
def ref20_Copy_l6 (a0 : Int × List (Bool × List UInt32) × UInt32 × Bool × UInt32 × Bool × UInt32 × Bool × Bool × UInt32 × UInt32 × List UInt32 × List (Int × List UInt8)) (i4 : Int) (c0 : Int) (c1 : List (Bool × List UInt32)) (c2 : Int) (c3 : Bool) (c4 : Int) (c5 : Bool) (c6 : Int) (c7 : Bool) (c8 : Bool) (c9 : Int) (c10 : Int) (c11 : List UInt32) (c12 : List (Int × List UInt8)) (next6 : (Int × Int × List (Bool × List UInt32) × Int × Bool × Int × Bool × Int × Bool × Bool × Int × Int × List UInt32 × List (Int × List UInt8) × Unit) → Prop) (K : (Int × List (Bool × List UInt32) × UInt32 × Bool × UInt32 × Bool × UInt32 × Bool × Bool × UInt32 × UInt32 × List UInt32 × List (Int × List UInt8)) → Prop) : Prop :=
 IfB (decide ((i4 : Int) < (a0.2.2.2.2.2.2.2.2.2.2.2.2.length : Int)))
 ((0 : Int) ≤ i4 ∧ AtN a0.2.2.2.2.2.2.2.2.2.2.2.2 i4.toNat fun x29 =>
 WfT ks_int_i64_lst_int_u8 x29 →
 (0 : Int) ≤ i4 ∧ AtN a0.2.2.2.2.2.2.2.2.2.2.2.2 i4.toNat fun x36 =>
 WfT ks_int_i64_lst_int_u8 x36 →
 ([] : List UInt8).length + x36.2.length ≤ 140737488355232 ∧
 c12.length + ([(x29.1, (([] : List UInt8) ++ x36.2))] : List (Int × List UInt8)).length ≤ 4398046511008 ∧
 next6 ((IntKind.wrap .i64 (i4 + 1)), c0, c1, c2, c3, c4, c5, c6, c7, c8, c9, c10, c11, (c12 ++ ([(x29.1, (([] : List UInt8) ++ x36.2))] : List (Int × List UInt8))), ()))
 (K (c0, c1, (ofI .u32 c2), c3, (ofI .u32 c4), c5, (ofI .u32 c6), c7, c8, (ofI .u32 c9), (ofI .u32 c10), c11, c12))
def ref20_Copy_q (a0 : Int × List (Bool × List UInt32) × UInt32 × Bool × UInt32 × Bool × UInt32 × Bool × Bool × UInt32 × UInt32 × List UInt32 × List (Int × List UInt8)) (K : (Int × List (Bool × List UInt32) × UInt32 × Bool × UInt32 × Bool × UInt32 × Bool × Bool × UInt32 × UInt32 × List UInt32 × List (Int × List UInt8)) → Prop) : Prop :=
 (WfPs ref19_Copy_ps (a0.2.1, ()) →
 ref19_Copy_q a0.2.1 (fun x8 =>
 WfPs ref19_Copy_rs (x8, ()) →
 ([] : List UInt32).length + a0.2.2.2.2.2.2.2.2.2.2.2.1.length ≤ 35184372088736 ∧
 LoopJ (Int × Int × List (Bool × List UInt32) × Int × Bool × Int × Bool × Int × Bool × Bool × Int × Int × List UInt32 × List (Int × List UInt8) × Unit) ((0 : Int), a0.1, x8, (a0.2.2.1.toNat : Int), a0.2.2.2.1, (a0.2.2.2.2.1.toNat : Int), a0.2.2.2.2.2.1, (a0.2.2.2.2.2.2.1.toNat : Int), a0.2.2.2.2.2.2.2.1, a0.2.2.2.2.2.2.2.2.1, (a0.2.2.2.2.2.2.2.2.2.1.toNat : Int), (a0.2.2.2.2.2.2.2.2.2.2.1.toNat : Int), (([] : List UInt32) ++ a0.2.2.2.2.2.2.2.2.2.2.2.1), ([] : List (Int × List UInt8)), ()) fun y next =>
 WfY pl_ref20_Copy_6.kinds y →
 ref20_Copy_l6 a0 y.1 y.2.1 y.2.2.1 y.2.2.2.1 y.2.2.2.2.1 y.2.2.2.2.2.1 y.2.2.2.2.2.2.1 y.2.2.2.2.2.2.2.1 y.2.2.2.2.2.2.2.2.1 y.2.2.2.2.2.2.2.2.2.1 y.2.2.2.2.2.2.2.2.2.2.1 y.2.2.2.2.2.2.2.2.2.2.2.1 y.2.2.2.2.2.2.2.2.2.2.2.2.1 y.2.2.2.2.2.2.2.2.2.2.2.2.2.1 next K))
noncomputable def tab_ref20_Copy : Tab := ⟨[(f_ref19_Copy, ct_ref19_Copy)], []⟩
theorem ref20_Copy_eq : (fun (x : PkTs ref20_Copy_ps) (K : PkTs ref20_Copy_rs → Prop) => ref20_Copy_q x.1 (fun r0 => K (r0, ()))) = fun x K => PCode Try.prog tab_ref20_Copy plan_ref20_Copy (bodyOf Try.f10) (parS ref20_Copy_ps x) (PRet Try.prog Try.f10.results.toList fun a st => outP ref20_Copy_rs st a K) := by kernel_rfl
theorem ref20_Copy_fq : FnQ Try.prog f_ref20_Copy ref20_Copy_ps ref20_Copy_rs (fun x K => ref20_Copy_q x.1 (fun r0 => K (r0, ()))) := (fnQ_of k_ref20_Copy (tab := tab_ref20_Copy) ⟨⟨ct_ref19_Copy_ok, trivial⟩, trivial⟩ rfl).of_eq ref20_Copy_eq
noncomputable def ct_ref20_Copy : Ct := ctVal ref20_Copy_ps ref20_Copy_rs (fun x K => ref20_Copy_q x.1 (fun r0 => K (r0, ())))
theorem ct_ref20_Copy_ok : SoundCt Try.prog f_ref20_Copy ct_ref20_Copy := ctVal_sound ref20_Copy_fq
def pl_law20_few_3 : PLoop := ⟨[(3, PK.int .i64)], [1, 2], [(1, [PK.int .i64, PK.row T_api_Segment [Kd.bool, Kd.lst [Kd.int .u32]], PK.int .u32, PK.bool, PK.int .u32, PK.bool, PK.int .u32, PK.bool, PK.bool, PK.int .u32, PK.int .u32, PK.lst [Kd.int .u32], PK.lst [Kd.int .i64, Kd.lst [Kd.int .u8]]])]⟩
def pl_law20_few_9 : PLoop := ⟨[(4, PK.row T_api_Raw [Kd.int .i64, Kd.lst [Kd.int .u8]]), (5, PK.int .i64)], [1, 2], []⟩
def plan_law20_few : PPlan := ⟨[], [(3, pl_law20_few_3), (9, pl_law20_few_9)], [], [], [], []⟩
theorem k_law20_few : Known Try.prog f_law20_few Try.f4 plan_law20_few.plan (bodyOf Try.f4) := ⟨Try.func4, by kernel_rfl, by kernel_rfl, by kernel_rfl, by kernel_rfl, by kernel_rfl⟩
abbrev law20_few_ps : List Pk := [Pk.agg [Kd.int .i64, Kd.lst [Kd.bool, Kd.lst [Kd.int .u32]], Kd.int .u32, Kd.bool, Kd.int .u32, Kd.bool, Kd.int .u32, Kd.bool, Kd.bool, Kd.int .u32, Kd.int .u32, Kd.lst [Kd.int .u32], Kd.lst [Kd.int .i64, Kd.lst [Kd.int .u8]]]]
abbrev law20_few_rs : List Pk := [Pk.agg [Kd.int .i64, Kd.lst [Kd.bool, Kd.lst [Kd.int .u32]], Kd.int .u32, Kd.bool, Kd.int .u32, Kd.bool, Kd.int .u32, Kd.bool, Kd.bool, Kd.int .u32, Kd.int .u32, Kd.lst [Kd.int .u32], Kd.lst [Kd.int .i64, Kd.lst [Kd.int .u8]]]]
def law20_few_j0 (c0 : Int) (c1 : List (Bool × List UInt32)) (c2 : Int) (c3 : Bool) (c4 : Int) (c5 : Bool) (c6 : Int) (c7 : Bool) (c8 : Bool) (c9 : Int) (c10 : Int) (c11 : List UInt32) (c12 : List (Int × List UInt8)) (l4 : List (Int × List UInt8)) (i5 : Int) (next9 : (List (Int × List UInt8) × Int × Unit) → Prop) (j28 : Bool) (K : (Int × List (Bool × List UInt32) × UInt32 × Bool × UInt32 × Bool × UInt32 × Bool × Bool × UInt32 × UInt32 × List UInt32 × List (Int × List UInt8)) → Prop) : Prop :=
 IfB j28
 ((0 : Int) ≤ i5 ∧ AtN c12 i5.toNat fun x66 =>
 WfT ks_int_i64_lst_int_u8 x66 →
 (0 : Int) ≤ i5 ∧ AtN c12 i5.toNat fun x72 =>
 WfT ks_int_i64_lst_int_u8 x72 →
 (0 : Int) ≤ i5 ∧ AtN c12 i5.toNat fun x78 =>
 WfT ks_int_i64_lst_int_u8 x78 →
 (0 : Int) ≤ (min (x78.2.length : Int) 260) ∧ (min (x78.2.length : Int) 260) ≤ (x72.2.length : Int) ∧
 l4.length + ([(x66.1, (x72.2.take ((min (x78.2.length : Int) 260).toNat)))] : List (Int × List UInt8)).length ≤ 4398046511008 ∧
 next9 ((l4 ++ ([(x66.1, (x72.2.take ((min (x78.2.length : Int) 260).toNat)))] : List (Int × List UInt8))), (IntKind.wrap .i64 (i5 + 1)), ()))
 ((WfPs ref20_Copy_ps (((c0, c1, (ofI .u32 c2), c3, (ofI .u32 c4), c5, (ofI .u32 c6), c7, c8, (ofI .u32 c9), (ofI .u32 c10), (c11.take ((min (c11.length : Int) 40).toNat)), l4) : Int × List (Bool × List UInt32) × UInt32 × Bool × UInt32 × Bool × UInt32 × Bool × Bool × UInt32 × UInt32 × List UInt32 × List (Int × List UInt8)), ()) →
 ref20_Copy_q ((c0, c1, (ofI .u32 c2), c3, (ofI .u32 c4), c5, (ofI .u32 c6), c7, c8, (ofI .u32 c9), (ofI .u32 c10), (c11.take ((min (c11.length : Int) 40).toNat)), l4) : Int × List (Bool × List UInt32) × UInt32 × Bool × UInt32 × Bool × UInt32 × Bool × Bool × UInt32 × UInt32 × List UInt32 × List (Int × List UInt8)) (fun x90 =>
 WfPs ref20_Copy_rs (x90, ()) →
 K (x90.1, x90.2.1, (ofI .u32 (x90.2.2.1.toNat : Int)), x90.2.2.2.1, (ofI .u32 (x90.2.2.2.2.1.toNat : Int)), x90.2.2.2.2.2.1, (ofI .u32 (x90.2.2.2.2.2.2.1.toNat : Int)), x90.2.2.2.2.2.2.2.1, x90.2.2.2.2.2.2.2.2.1, (ofI .u32 (x90.2.2.2.2.2.2.2.2.2.1.toNat : Int)), (ofI .u32 (x90.2.2.2.2.2.2.2.2.2.2.1.toNat : Int)), x90.2.2.2.2.2.2.2.2.2.2.2.1, x90.2.2.2.2.2.2.2.2.2.2.2.2))))
def law20_few_l9 (c0 : Int) (c1 : List (Bool × List UInt32)) (c2 : Int) (c3 : Bool) (c4 : Int) (c5 : Bool) (c6 : Int) (c7 : Bool) (c8 : Bool) (c9 : Int) (c10 : Int) (c11 : List UInt32) (c12 : List (Int × List UInt8)) (l4 : List (Int × List UInt8)) (i5 : Int) (next9 : (List (Int × List UInt8) × Int × Unit) → Prop) (K : (Int × List (Bool × List UInt32) × UInt32 × Bool × UInt32 × Bool × UInt32 × Bool × Bool × UInt32 × UInt32 × List UInt32 × List (Int × List UInt8)) → Prop) : Prop :=
 IfB (decide ((i5 : Int) < (c12.length : Int)))
 (law20_few_j0 c0 c1 c2 c3 c4 c5 c6 c7 c8 c9 c10 c11 c12 l4 i5 next9 (decide ((i5 : Int) < 10)) K)
 (law20_few_j0 c0 c1 c2 c3 c4 c5 c6 c7 c8 c9 c10 c11 c12 l4 i5 next9 false K)
def law20_few_l3 (a0 : Int × List (Bool × List UInt32) × UInt32 × Bool × UInt32 × Bool × UInt32 × Bool × Bool × UInt32 × UInt32 × List UInt32 × List (Int × List UInt8)) (i3 : Int) (c0 : Int) (c1 : List (Bool × List UInt32)) (c2 : Int) (c3 : Bool) (c4 : Int) (c5 : Bool) (c6 : Int) (c7 : Bool) (c8 : Bool) (c9 : Int) (c10 : Int) (c11 : List UInt32) (c12 : List (Int × List UInt8)) (next3 : (Int × Int × List (Bool × List UInt32) × Int × Bool × Int × Bool × Int × Bool × Bool × Int × Int × List UInt32 × List (Int × List UInt8) × Unit) → Prop) (K : (Int × List (Bool × List UInt32) × UInt32 × Bool × UInt32 × Bool × UInt32 × Bool × Bool × UInt32 × UInt32 × List UInt32 × List (Int × List UInt8)) → Prop) : Prop :=
 IfB (decide ((i3 : Int) < (c1.length : Int)))
 ((0 : Int) ≤ i3 ∧ i3 < (c1.length : Int) ∧
 AtN c1 i3.toNat fun x30 =>
 WfT ks_bool_lst_int_u32 x30 →
 (0 : Int) ≤ i3 ∧ i3 < (c1.length : Int) ∧
 AtN c1 i3.toNat fun x36 =>
 WfT ks_bool_lst_int_u32 x36 →
 (0 : Int) ≤ (min (x36.2.length : Int) 260) ∧ (min (x36.2.length : Int) 260) ≤ (x30.2.length : Int) ∧
 (0 : Int) ≤ i3 ∧ i3 < (c1.length : Int) ∧
 AtN c1 i3.toNat fun el =>
 WfT ks_bool_lst_int_u32 el →
 next3 ((IntKind.wrap .i64 (i3 + 1)), c0, (c1.set i3.toNat (el.1, (x30.2.take ((min (x36.2.length : Int) 260).toNat)))), c2, c3, c4, c5, c6, c7, c8, c9, c10, c11, c12, ()))
 ((0 : Int) ≤ (min (c11.length : Int) 40) ∧ (min (c11.length : Int) 40) ≤ (c11.length : Int) ∧
 LoopJ (List (Int × List UInt8) × Int × Unit) (([] : List (Int × List UInt8)), (0 : Int), ()) fun y next =>
 WfY pl_law20_few_9.kinds y →
 law20_few_l9 c0 c1 c2 c3 c4 c5 c6 c7 c8 c9 c10 c11 c12 y.1 y.2.1 next K)
def law20_few_q (a0 : Int × List (Bool × List UInt32) × UInt32 × Bool × UInt32 × Bool × UInt32 × Bool × Bool × UInt32 × UInt32 × List UInt32 × List (Int × List UInt8)) (K : (Int × List (Bool × List UInt32) × UInt32 × Bool × UInt32 × Bool × UInt32 × Bool × Bool × UInt32 × UInt32 × List UInt32 × List (Int × List UInt8)) → Prop) : Prop :=
 (0 : Int) ≤ (min (a0.2.1.length : Int) 8) ∧ (min (a0.2.1.length : Int) 8) ≤ (a0.2.1.length : Int) ∧
 (WfPs ref19_Copy_ps ((a0.2.1.take ((min (a0.2.1.length : Int) 8).toNat)), ()) →
 ref19_Copy_q (a0.2.1.take ((min (a0.2.1.length : Int) 8).toNat)) (fun x13 =>
 WfPs ref19_Copy_rs (x13, ()) →
 LoopJ (Int × Int × List (Bool × List UInt32) × Int × Bool × Int × Bool × Int × Bool × Bool × Int × Int × List UInt32 × List (Int × List UInt8) × Unit) ((0 : Int), a0.1, x13, (a0.2.2.1.toNat : Int), a0.2.2.2.1, (a0.2.2.2.2.1.toNat : Int), a0.2.2.2.2.2.1, (a0.2.2.2.2.2.2.1.toNat : Int), a0.2.2.2.2.2.2.2.1, a0.2.2.2.2.2.2.2.2.1, (a0.2.2.2.2.2.2.2.2.2.1.toNat : Int), (a0.2.2.2.2.2.2.2.2.2.2.1.toNat : Int), a0.2.2.2.2.2.2.2.2.2.2.2.1, a0.2.2.2.2.2.2.2.2.2.2.2.2, ()) fun y next =>
 WfY pl_law20_few_3.kinds y →
 law20_few_l3 a0 y.1 y.2.1 y.2.2.1 y.2.2.2.1 y.2.2.2.2.1 y.2.2.2.2.2.1 y.2.2.2.2.2.2.1 y.2.2.2.2.2.2.2.1 y.2.2.2.2.2.2.2.2.1 y.2.2.2.2.2.2.2.2.2.1 y.2.2.2.2.2.2.2.2.2.2.1 y.2.2.2.2.2.2.2.2.2.2.2.1 y.2.2.2.2.2.2.2.2.2.2.2.2.1 y.2.2.2.2.2.2.2.2.2.2.2.2.2.1 next K))
noncomputable def tab_law20_few : Tab := ⟨[(f_ref19_Copy, ct_ref19_Copy), (f_ref20_Copy, ct_ref20_Copy)], []⟩
theorem law20_few_eq : (fun (x : PkTs law20_few_ps) (K : PkTs law20_few_rs → Prop) => law20_few_q x.1 (fun r0 => K (r0, ()))) = fun x K => PCode Try.prog tab_law20_few plan_law20_few (bodyOf Try.f4) (parS law20_few_ps x) (PRet Try.prog Try.f4.results.toList fun a st => outP law20_few_rs st a K) := by kernel_rfl
theorem law20_few_fq : FnQ Try.prog f_law20_few law20_few_ps law20_few_rs (fun x K => law20_few_q x.1 (fun r0 => K (r0, ()))) := (fnQ_of k_law20_few (tab := tab_law20_few) ⟨⟨ct_ref19_Copy_ok, ct_ref20_Copy_ok, trivial⟩, trivial⟩ rfl).of_eq law20_few_eq
noncomputable def ct_law20_few : Ct := ctVal law20_few_ps law20_few_rs (fun x K => law20_few_q x.1 (fun r0 => K (r0, ())))
theorem ct_law20_few_ok : SoundCt Try.prog f_law20_few ct_law20_few := ctVal_sound law20_few_fq
def pl_slices_Indexasl_uint32_uint32_2 : PLoop := ⟨[(8, PK.int .i64)], [0, 1, 7], []⟩
def plan_slices_Indexasl_uint32_uint32 : PPlan := ⟨[], [(2, pl_slices_Indexasl_uint32_uint32_2)], [], [], [], []⟩
theorem k_slices_Indexasl_uint32_uint32 : Known Try.prog f_slices_Indexasl_uint32_uint32 Try.f48 plan_slices_Indexasl_uint32_uint32.plan (bodyOf Try.f48) := ⟨Try.func48, by kernel_rfl, by kernel_rfl, by kernel_rfl, by kernel_rfl, by kernel_rfl⟩
abbrev slices_Indexasl_uint32_uint32_ps : List Pk := [Pk.lst [Kd.int .u32], Pk.int .u32]
abbrev slices_Indexasl_uint32_uint32_rs : List Pk := [Pk.int .i64]
def slices_Indexasl_uint32_uint32_l2 (s0 : List UInt32) (v1 : Int) (x8 : Int) (next2 : (Int × Unit) → Prop) (K : Int → Prop) : Prop :=
 IfB (decide ((x8 : Int) < (s0.length : Int)))
 ((0 : Int) ≤ x8 ∧ AtN s0 x8.toNat fun x14 =>
 WfT ks_int_u32 x14 →
 IfB ((v1 : Int) == (x14.toNat : Int))
 (K x8)
 (next2 ((IntKind.wrap .i64 (x8 + 1)), ())))
 (K (-1))
def slices_Indexasl_uint32_uint32_q (s0 : List UInt32) (v1 : Int) (K : Int → Prop) : Prop :=
 LoopJ (Int × Unit) ((0 : Int), ()) fun y next =>
 WfY pl_slices_Indexasl_uint32_uint32_2.kinds y →
 slices_Indexasl_uint32_uint32_l2 s0 v1 y.1 next K
noncomputable def tab_slices_Indexasl_uint32_uint32 : Tab := ⟨[], []⟩
theorem slices_Indexasl_uint32_uint32_eq : (fun (x : PkTs slices_Indexasl_uint32_uint32_ps) (K : PkTs slices_Indexasl_uint32_uint32_rs → Prop) => slices_Indexasl_uint32_uint32_q x.1 x.2.1 (fun r0 => K (r0, ()))) = fun x K => PCode Try.prog tab_slices_Indexasl_uint32_uint32 plan_slices_Indexasl_uint32_uint32 (bodyOf Try.f48) (parS slices_Indexasl_uint32_uint32_ps x) (PRet Try.prog Try.f48.results.toList fun a st => outP slices_Indexasl_uint32_uint32_rs st a K) := by kernel_rfl
theorem slices_Indexasl_uint32_uint32_fq : FnQ Try.prog f_slices_Indexasl_uint32_uint32 slices_Indexasl_uint32_uint32_ps slices_Indexasl_uint32_uint32_rs (fun x K => slices_Indexasl_uint32_uint32_q x.1 x.2.1 (fun r0 => K (r0, ()))) := (fnQ_of k_slices_Indexasl_uint32_uint32 (tab := tab_slices_Indexasl_uint32_uint32) ⟨trivial, trivial⟩ rfl).of_eq slices_Indexasl_uint32_uint32_eq
noncomputable def ct_slices_Indexasl_uint32_uint32 : Ct := ctRd slices_Indexasl_uint32_uint32_ps slices_Indexasl_uint32_uint32_rs (fun x K => slices_Indexasl_uint32_uint32_q x.1 x.2.1 (fun r0 => K (r0, ())))
theorem ct_slices_Indexasl_uint32_uint32_ok : SoundCt Try.prog f_slices_Indexasl_uint32_uint32 ct_slices_Indexasl_uint32_uint32 := ctRd_sound slices_Indexasl_uint32_uint32_fq
def plan_slices_Containsasl_uint32_uint32 : PPlan := ⟨[], [], [], [], [], []⟩
theorem k_slices_Containsasl_uint32_uint32 : Known Try.prog f_slices_Containsasl_uint32_uint32 Try.f47 plan_slices_Containsasl_uint32_uint32.plan (bodyOf Try.f47) := ⟨Try.func47, by kernel_rfl, by kernel_rfl, by kernel_rfl, by kernel_rfl, by kernel_rfl⟩
abbrev slices_Containsasl_uint32_uint32_ps : List Pk := [Pk.lst [Kd.int .u32], Pk.int .u32]
abbrev slices_Containsasl_uint32_uint32_rs : List Pk := [Pk.bool]
def slices_Containsasl_uint32_uint32_q (s0 : List UInt32) (v1 : Int) (K : Bool → Prop) : Prop :=
 (WfPs slices_Indexasl_uint32_uint32_ps (s0, v1, ()) →
 slices_Indexasl_uint32_uint32_q s0 v1 (fun x7 =>
 WfPs slices_Indexasl_uint32_uint32_rs (x7, ()) →
 K (decide ((x7 : Int) ≥ 0))))
noncomputable def tab_slices_Containsasl_uint32_uint32 : Tab := ⟨[(f_slices_Indexasl_uint32_uint32, ct_slices_Indexasl_uint32_uint32)], []⟩
theorem slices_Containsasl_uint32_uint32_eq : (fun (x : PkTs slices_Containsasl_uint32_uint32_ps) (K : PkTs slices_Containsasl_uint32_uint32_rs → Prop) => slices_Containsasl_uint32_uint32_q x.1 x.2.1 (fun r0 => K (r0, ()))) = fun x K => PCode Try.prog tab_slices_Containsasl_uint32_uint32 plan_slices_Containsasl_uint32_uint32 (bodyOf Try.f47) (parS slices_Containsasl_uint32_uint32_ps x) (PRet Try.prog Try.f47.results.toList fun a st => outP slices_Containsasl_uint32_uint32_rs st a K) := by kernel_rfl
theorem slices_Containsasl_uint32_uint32_fq : FnQ Try.prog f_slices_Containsasl_uint32_uint32 slices_Containsasl_uint32_uint32_ps slices_Containsasl_uint32_uint32_rs (fun x K => slices_Containsasl_uint32_uint32_q x.1 x.2.1 (fun r0 => K (r0, ()))) := (fnQ_of k_slices_Containsasl_uint32_uint32 (tab := tab_slices_Containsasl_uint32_uint32) ⟨⟨ct_slices_Indexasl_uint32_uint32_ok, trivial⟩, trivial⟩ rfl).of_eq slices_Containsasl_uint32_uint32_eq
noncomputable def ct_slices_Containsasl_uint32_uint32 : Ct := ctRd slices_Containsasl_uint32_uint32_ps slices_Containsasl_uint32_uint32_rs (fun x K => slices_Containsasl_uint32_uint32_q x.1 x.2.1 (fun r0 => K (r0, ())))
theorem ct_slices_Containsasl_uint32_uint32_ok : SoundCt Try.prog f_slices_Containsasl_uint32_uint32 ct_slices_Containsasl_uint32_uint32 := ctRd_sound slices_Containsasl_uint32_uint32_fq
def plan_path_part : PPlan := ⟨[], [], [], [], [], []⟩
theorem k_path_part : Known Try.prog f_path_part Try.f42 plan_path_part.plan (bodyOf Try.f42) := ⟨Try.func42, by kernel_rfl, by kernel_rfl, by kernel_rfl, by kernel_rfl, by kernel_rfl⟩
abbrev path_part_ps : List Pk := [Pk.agg [Kd.bool, Kd.lst [Kd.int .u32]]]
abbrev path_part_rs : List Pk := [Pk.bool]
def path_part_q (s0 : Bool × List UInt32) (K : Bool → Prop) : Prop :=
 IfB (decide (((s0.2.length : Int) : Int) > 0))
 (IfB (decide (((s0.2.length : Int) : Int) ≤ 255))
 ((WfPs slices_Containsasl_uint32_uint32_ps (s0.2, (0 : Int), ()) →
 slices_Containsasl_uint32_uint32_q s0.2 (0 : Int) (fun x16 =>
 WfPs slices_Containsasl_uint32_uint32_rs (x16, ()) →
 K (!x16))))
 (K false))
 (K false)
noncomputable def tab_path_part : Tab := ⟨[(f_slices_Containsasl_uint32_uint32, ct_slices_Containsasl_uint32_uint32)], []⟩
theorem path_part_eq : (fun (x : PkTs path_part_ps) (K : PkTs path_part_rs → Prop) => path_part_q x.1 (fun r0 => K (r0, ()))) = fun x K => PCode Try.prog tab_path_part plan_path_part (bodyOf Try.f42) (parS path_part_ps x) (PRet Try.prog Try.f42.results.toList fun a st => outP path_part_rs st a K) := by kernel_rfl
theorem path_part_fq : FnQ Try.prog f_path_part path_part_ps path_part_rs (fun x K => path_part_q x.1 (fun r0 => K (r0, ()))) := (fnQ_of k_path_part (tab := tab_path_part) ⟨⟨ct_slices_Containsasl_uint32_uint32_ok, trivial⟩, trivial⟩ rfl).of_eq path_part_eq
noncomputable def ct_path_part : Ct := ctRd path_part_ps path_part_rs (fun x K => path_part_q x.1 (fun r0 => K (r0, ())))
theorem ct_path_part_ok : SoundCt Try.prog f_path_part ct_path_part := ctRd_sound path_part_fq
def pl_path_count_3 : PLoop := ⟨[(3, PK.int .i64), (8, PK.int .i64)], [6, 7], []⟩
def plan_path_count : PPlan := ⟨[], [(3, pl_path_count_3)], [], [], [], []⟩
theorem k_path_count : Known Try.prog f_path_count Try.f43 plan_path_count.plan (bodyOf Try.f43) := ⟨Try.func43, by kernel_rfl, by kernel_rfl, by kernel_rfl, by kernel_rfl, by kernel_rfl⟩
abbrev path_count_ps : List Pk := [Pk.lst [Kd.bool, Kd.lst [Kd.int .u32]]]
abbrev path_count_rs : List Pk := [Pk.int .i64]
def path_count_l3 (p0 : List (Bool × List UInt32)) (n3 : Int) (x8 : Int) (next3 : (Int × Int × Unit) → Prop) (K : Int → Prop) : Prop :=
 IfB (decide ((x8 : Int) < (p0.length : Int)))
 ((0 : Int) ≤ x8 ∧ AtN p0 x8.toNat fun x10 =>
 WfT ks_bool_lst_int_u32 x10 →
 next3 ((IntKind.wrap .i64 (n3 + (x10.2.length : Int))), (IntKind.wrap .i64 (x8 + 1)), ()))
 (K n3)
def path_count_q (p0 : List (Bool × List UInt32)) (K : Int → Prop) : Prop :=
 LoopJ (Int × Int × Unit) ((0 : Int), (0 : Int), ()) fun y next =>
 WfY pl_path_count_3.kinds y →
 path_count_l3 p0 y.1 y.2.1 next K
noncomputable def tab_path_count : Tab := ⟨[], []⟩
theorem path_count_eq : (fun (x : PkTs path_count_ps) (K : PkTs path_count_rs → Prop) => path_count_q x.1 (fun r0 => K (r0, ()))) = fun x K => PCode Try.prog tab_path_count plan_path_count (bodyOf Try.f43) (parS path_count_ps x) (PRet Try.prog Try.f43.results.toList fun a st => outP path_count_rs st a K) := by kernel_rfl
theorem path_count_fq : FnQ Try.prog f_path_count path_count_ps path_count_rs (fun x K => path_count_q x.1 (fun r0 => K (r0, ()))) := (fnQ_of k_path_count (tab := tab_path_count) ⟨trivial, trivial⟩ rfl).of_eq path_count_eq
noncomputable def ct_path_count : Ct := ctRd path_count_ps path_count_rs (fun x K => path_count_q x.1 (fun r0 => K (r0, ())))
theorem ct_path_count_ok : SoundCt Try.prog f_path_count ct_path_count := ctRd_sound path_count_fq
def pl_path_Check_2 : PLoop := ⟨[(7, PK.int .i64)], [0, 5, 6], []⟩
def plan_path_Check : PPlan := ⟨[], [(2, pl_path_Check_2)], [], [], [], []⟩
theorem k_path_Check : Known Try.prog f_path_Check Try.f31 plan_path_Check.plan (bodyOf Try.f31) := ⟨Try.func31, by kernel_rfl, by kernel_rfl, by kernel_rfl, by kernel_rfl, by kernel_rfl⟩
abbrev path_Check_ps : List Pk := [Pk.lst [Kd.bool, Kd.lst [Kd.int .u32]]]
abbrev path_Check_rs : List Pk := [Pk.int .i64]
def path_Check_l2 (p0 : List (Bool × List UInt32)) (x7 : Int) (next2 : (Int × Unit) → Prop) (K : Int → Prop) : Prop :=
 IfB (decide ((x7 : Int) < (p0.length : Int)))
 ((0 : Int) ≤ x7 ∧ AtN p0 x7.toNat fun x9 =>
 WfT ks_bool_lst_int_u32 x9 →
 (WfPs path_part_ps (x9, ()) →
 path_part_q x9 (fun x12 =>
 WfPs path_part_rs (x12, ()) →
 IfB (!x12)
 (K 2)
 (next2 ((IntKind.wrap .i64 (x7 + 1)), ())))))
 ((WfPs path_count_ps (p0, ()) →
 path_count_q p0 (fun x16 =>
 WfPs path_count_rs (x16, ()) →
 IfB (decide ((x16 : Int) > 64))
 (K 2)
 (K 0))))
def path_Check_q (p0 : List (Bool × List UInt32)) (K : Int → Prop) : Prop :=
 LoopJ (Int × Unit) ((0 : Int), ()) fun y next =>
 WfY pl_path_Check_2.kinds y →
 path_Check_l2 p0 y.1 next K
noncomputable def tab_path_Check : Tab := ⟨[(f_path_part, ct_path_part), (f_path_count, ct_path_count)], []⟩
theorem path_Check_eq : (fun (x : PkTs path_Check_ps) (K : PkTs path_Check_rs → Prop) => path_Check_q x.1 (fun r0 => K (r0, ()))) = fun x K => PCode Try.prog tab_path_Check plan_path_Check (bodyOf Try.f31) (parS path_Check_ps x) (PRet Try.prog Try.f31.results.toList fun a st => outP path_Check_rs st a K) := by kernel_rfl
theorem path_Check_fq : FnQ Try.prog f_path_Check path_Check_ps path_Check_rs (fun x K => path_Check_q x.1 (fun r0 => K (r0, ()))) := (fnQ_of k_path_Check (tab := tab_path_Check) ⟨⟨ct_path_part_ok, ct_path_count_ok, trivial⟩, trivial⟩ rfl).of_eq path_Check_eq
noncomputable def ct_path_Check : Ct := ctRd path_Check_ps path_Check_rs (fun x K => path_Check_q x.1 (fun r0 => K (r0, ())))
theorem ct_path_Check_ok : SoundCt Try.prog f_path_Check ct_path_Check := ctRd_sound path_Check_fq
def plan_attr_hop : PPlan := ⟨[], [], [], [], [], []⟩
theorem k_attr_hop : Known Try.prog f_attr_hop Try.f32 plan_attr_hop.plan (bodyOf Try.f32) := ⟨Try.func32, by kernel_rfl, by kernel_rfl, by kernel_rfl, by kernel_rfl, by kernel_rfl⟩
abbrev attr_hop_ps : List Pk := [Pk.int .u32]
abbrev attr_hop_rs : List Pk := [Pk.bool]
def attr_hop_q (a0 : Int) (K : Bool → Prop) : Prop :=
 IfB ((a0 : Int) != 0)
 (K (decide ((a0 : Int) < 3758096384)))
 (K false)
noncomputable def tab_attr_hop : Tab := ⟨[], []⟩
theorem attr_hop_eq : (fun (x : PkTs attr_hop_ps) (K : PkTs attr_hop_rs → Prop) => attr_hop_q x.1 (fun r0 => K (r0, ()))) = fun x K => PCode Try.prog tab_attr_hop plan_attr_hop (bodyOf Try.f32) (parS attr_hop_ps x) (PRet Try.prog Try.f32.results.toList fun a st => outP attr_hop_rs st a K) := by kernel_rfl
theorem attr_hop_fq : FnQ Try.prog f_attr_hop attr_hop_ps attr_hop_rs (fun x K => attr_hop_q x.1 (fun r0 => K (r0, ()))) := (fnQ_of k_attr_hop (tab := tab_attr_hop) ⟨trivial, trivial⟩ rfl).of_eq attr_hop_eq
noncomputable def ct_attr_hop : Ct := ctRd attr_hop_ps attr_hop_rs (fun x K => attr_hop_q x.1 (fun r0 => K (r0, ())))
theorem ct_attr_hop_ok : SoundCt Try.prog f_attr_hop ct_attr_hop := ctRd_sound attr_hop_fq
def plan_attr_known : PPlan := ⟨[], [], [], [], [], []⟩
theorem k_attr_known : Known Try.prog f_attr_known Try.f35 plan_attr_known.plan (bodyOf Try.f35) := ⟨Try.func35, by kernel_rfl, by kernel_rfl, by kernel_rfl, by kernel_rfl, by kernel_rfl⟩
abbrev attr_known_ps : List Pk := [Pk.int .i64]
abbrev attr_known_rs : List Pk := [Pk.int .u8, Pk.bool]
def attr_known_j2 (j0 : Bool) (K : Int → Bool → Prop) : Prop :=
 IfB j0
 (K 192 true)
 (K 0 false)
def attr_known_j1 (kind0 : Int) (K : Int → Bool → Prop) : Prop :=
 IfB ((kind0 : Int) == 4)
 (K 128 true)
 (IfB ((kind0 : Int) == 7)
 (attr_known_j2 ((kind0 : Int) == 7) K)
 (IfB ((kind0 : Int) == 8)
 (attr_known_j2 ((kind0 : Int) == 8) K)
 (IfB ((kind0 : Int) == 17)
 (attr_known_j2 ((kind0 : Int) == 17) K)
 (attr_known_j2 ((kind0 : Int) == 18) K))))
def attr_known_j0 (kind0 : Int) (j1 : Bool) (K : Int → Bool → Prop) : Prop :=
 IfB j1
 (K 64 true)
 (attr_known_j1 kind0 K)
def attr_known_q (kind0 : Int) (K : Int → Bool → Prop) : Prop :=
 IfB ((kind0 : Int) == 1)
 (attr_known_j0 kind0 ((kind0 : Int) == 1) K)
 (IfB ((kind0 : Int) == 2)
 (attr_known_j0 kind0 ((kind0 : Int) == 2) K)
 (IfB ((kind0 : Int) == 3)
 (attr_known_j0 kind0 ((kind0 : Int) == 3) K)
 (IfB ((kind0 : Int) == 5)
 (attr_known_j0 kind0 ((kind0 : Int) == 5) K)
 (attr_known_j0 kind0 ((kind0 : Int) == 6) K))))
noncomputable def tab_attr_known : Tab := ⟨[], []⟩
theorem attr_known_eq : (fun (x : PkTs attr_known_ps) (K : PkTs attr_known_rs → Prop) => attr_known_q x.1 (fun r0 r1 => K (r0, r1, ()))) = fun x K => PCode Try.prog tab_attr_known plan_attr_known (bodyOf Try.f35) (parS attr_known_ps x) (PRet Try.prog Try.f35.results.toList fun a st => outP attr_known_rs st a K) := by kernel_rfl
theorem attr_known_fq : FnQ Try.prog f_attr_known attr_known_ps attr_known_rs (fun x K => attr_known_q x.1 (fun r0 r1 => K (r0, r1, ()))) := (fnQ_of k_attr_known (tab := tab_attr_known) ⟨trivial, trivial⟩ rfl).of_eq attr_known_eq
noncomputable def ct_attr_known : Ct := ctRd attr_known_ps attr_known_rs (fun x K => attr_known_q x.1 (fun r0 r1 => K (r0, r1, ())))
theorem ct_attr_known_ok : SoundCt Try.prog f_attr_known ct_attr_known := ctRd_sound attr_known_fq
def pl_attr_others_3 : PLoop := ⟨[(3, PK.int .i64), (10, PK.int .i64)], [0, 8, 9], []⟩
def plan_attr_others : PPlan := ⟨[], [(3, pl_attr_others_3)], [], [], [], []⟩
theorem k_attr_others : Known Try.prog f_attr_others Try.f33 plan_attr_others.plan (bodyOf Try.f33) := ⟨Try.func33, by kernel_rfl, by kernel_rfl, by kernel_rfl, by kernel_rfl, by kernel_rfl⟩
abbrev attr_others_ps : List Pk := [Pk.lst [Kd.int .i64, Kd.lst [Kd.int .u8]]]
abbrev attr_others_rs : List Pk := [Pk.bool]
def attr_others_j0 (l0 : List (Int × List UInt8)) (x12 : Int × List UInt8) (x10 : Int) (next3 : (Int × Int × Unit) → Prop) (j6 : Bool) (K : Bool → Prop) : Prop :=
 IfB j6
 (K false)
 (next3 (x12.1, (IntKind.wrap .i64 (x10 + 1)), ()))
def attr_others_l3 (l0 : List (Int × List UInt8)) (last3 : Int) (x10 : Int) (next3 : (Int × Int × Unit) → Prop) (K : Bool → Prop) : Prop :=
 IfB (decide ((x10 : Int) < (l0.length : Int)))
 ((0 : Int) ≤ x10 ∧ AtN l0 x10.toNat fun x12 =>
 WfT ks_int_i64_lst_int_u8 x12 →
 (WfPs attr_known_ps (x12.1, ()) →
 attr_known_q x12.1 (fun x17r0 x17r1 =>
 WfPs attr_known_rs (x17r0, x17r1, ()) →
 IfB x17r1
 (attr_others_j0 l0 x12 x10 next3 true K)
 (IfB (decide ((x12.1 : Int) ≤ last3))
 (attr_others_j0 l0 x12 x10 next3 true K)
 (IfB (decide ((x12.1 : Int) > 255))
 (attr_others_j0 l0 x12 x10 next3 true K)
 (attr_others_j0 l0 x12 x10 next3 (decide (((x12.2.length : Int) : Int) > 255)) K))))))
 (K (decide (((l0.length : Int) : Int) ≤ 8)))
def attr_others_q (l0 : List (Int × List UInt8)) (K : Bool → Prop) : Prop :=
 LoopJ (Int × Int × Unit) (((-1) : Int), (0 : Int), ()) fun y next =>
 WfY pl_attr_others_3.kinds y →
 attr_others_l3 l0 y.1 y.2.1 next K
noncomputable def tab_attr_others : Tab := ⟨[(f_attr_known, ct_attr_known)], []⟩
theorem attr_others_eq : (fun (x : PkTs attr_others_ps) (K : PkTs attr_others_rs → Prop) => attr_others_q x.1 (fun r0 => K (r0, ()))) = fun x K => PCode Try.prog tab_attr_others plan_attr_others (bodyOf Try.f33) (parS attr_others_ps x) (PRet Try.prog Try.f33.results.toList fun a st => outP attr_others_rs st a K) := by kernel_rfl
theorem attr_others_fq : FnQ Try.prog f_attr_others attr_others_ps attr_others_rs (fun x K => attr_others_q x.1 (fun r0 => K (r0, ()))) := (fnQ_of k_attr_others (tab := tab_attr_others) ⟨⟨ct_attr_known_ok, trivial⟩, trivial⟩ rfl).of_eq attr_others_eq
noncomputable def ct_attr_others : Ct := ctRd attr_others_ps attr_others_rs (fun x K => attr_others_q x.1 (fun r0 => K (r0, ())))
theorem ct_attr_others_ok : SoundCt Try.prog f_attr_others ct_attr_others := ctRd_sound attr_others_fq
def plan_attr_Check : PPlan := ⟨[], [], [], [], [], []⟩
theorem k_attr_Check : Known Try.prog f_attr_Check Try.f24 plan_attr_Check.plan (bodyOf Try.f24) := ⟨Try.func24, by kernel_rfl, by kernel_rfl, by kernel_rfl, by kernel_rfl, by kernel_rfl⟩
abbrev attr_Check_ps : List Pk := [Pk.agg [Kd.int .i64, Kd.lst [Kd.bool, Kd.lst [Kd.int .u32]], Kd.int .u32, Kd.bool, Kd.int .u32, Kd.bool, Kd.int .u32, Kd.bool, Kd.bool, Kd.int .u32, Kd.int .u32, Kd.lst [Kd.int .u32], Kd.lst [Kd.int .i64, Kd.lst [Kd.int .u8]]]]
abbrev attr_Check_rs : List Pk := [Pk.int .i64]
def attr_Check_j2 (j0 : Bool) (K : Int → Prop) : Prop :=
 IfB j0
 (K 2)
 (K 0)
def attr_Check_j1 (a0 : Int × List (Bool × List UInt32) × UInt32 × Bool × UInt32 × Bool × UInt32 × Bool × Bool × UInt32 × UInt32 × List UInt32 × List (Int × List UInt8)) (j13_1 : Bool) (K : Int → Prop) : Prop :=
 IfB j13_1
 (K 2)
 (IfB (decide (((a0.2.2.2.2.2.2.2.2.2.2.2.1.length : Int) : Int) > 32))
 (attr_Check_j2 true K)
 ((WfPs attr_others_ps (a0.2.2.2.2.2.2.2.2.2.2.2.2, ()) →
 attr_others_q a0.2.2.2.2.2.2.2.2.2.2.2.2 (fun x40 =>
 WfPs attr_others_rs (x40, ()) →
 attr_Check_j2 (!x40) K))))
def attr_Check_j0 (a0 : Int × List (Bool × List UInt32) × UInt32 × Bool × UInt32 × Bool × UInt32 × Bool × Bool × UInt32 × UInt32 × List UInt32 × List (Int × List UInt8)) (j13 : Bool) (K : Int → Prop) : Prop :=
 IfB j13
 (K 2)
 ((WfPs attr_hop_ps ((a0.2.2.1.toNat : Int), ()) →
 attr_hop_q (a0.2.2.1.toNat : Int) (fun x21 =>
 WfPs attr_hop_rs (x21, ()) →
 IfB (!x21)
 (attr_Check_j1 a0 true K)
 (IfB a0.2.2.2.2.2.2.2.2.1
 (attr_Check_j1 a0 (((a0.2.2.2.2.2.2.2.2.2.1.toNat : Int) : Int) == 0) K)
 (attr_Check_j1 a0 false K)))))
def attr_Check_q (a0 : Int × List (Bool × List UInt32) × UInt32 × Bool × UInt32 × Bool × UInt32 × Bool × Bool × UInt32 × UInt32 × List UInt32 × List (Int × List UInt8)) (K : Int → Prop) : Prop :=
 IfB (decide ((a0.1 : Int) < 0))
 (attr_Check_j0 a0 true K)
 (IfB (decide ((a0.1 : Int) > 2))
 (attr_Check_j0 a0 true K)
 ((WfPs path_Check_ps (a0.2.1, ()) →
 path_Check_q a0.2.1 (fun x15 =>
 WfPs path_Check_rs (x15, ()) →
 attr_Check_j0 a0 ((x15 : Int) != 0) K))))
noncomputable def tab_attr_Check : Tab := ⟨[(f_path_Check, ct_path_Check), (f_attr_hop, ct_attr_hop), (f_attr_others, ct_attr_others)], []⟩
theorem attr_Check_eq : (fun (x : PkTs attr_Check_ps) (K : PkTs attr_Check_rs → Prop) => attr_Check_q x.1 (fun r0 => K (r0, ()))) = fun x K => PCode Try.prog tab_attr_Check plan_attr_Check (bodyOf Try.f24) (parS attr_Check_ps x) (PRet Try.prog Try.f24.results.toList fun a st => outP attr_Check_rs st a K) := by kernel_rfl
theorem attr_Check_fq : FnQ Try.prog f_attr_Check attr_Check_ps attr_Check_rs (fun x K => attr_Check_q x.1 (fun r0 => K (r0, ()))) := (fnQ_of k_attr_Check (tab := tab_attr_Check) ⟨⟨ct_path_Check_ok, ct_attr_hop_ok, ct_attr_others_ok, trivial⟩, trivial⟩ rfl).of_eq attr_Check_eq
noncomputable def ct_attr_Check : Ct := ctRd attr_Check_ps attr_Check_rs (fun x K => attr_Check_q x.1 (fun r0 => K (r0, ())))
theorem ct_attr_Check_ok : SoundCt Try.prog f_attr_Check ct_attr_Check := ctRd_sound attr_Check_fq
def plan_path_kind : PPlan := ⟨[], [], [], [], [], []⟩
theorem k_path_kind : Known Try.prog f_path_kind Try.f34 plan_path_kind.plan (bodyOf Try.f34) := ⟨Try.func34, by kernel_rfl, by kernel_rfl, by kernel_rfl, by kernel_rfl, by kernel_rfl⟩
abbrev path_kind_ps : List Pk := [Pk.agg [Kd.bool, Kd.lst [Kd.int .u32]]]
abbrev path_kind_rs : List Pk := [Pk.int .u8]
def path_kind_q (s0 : Bool × List UInt32) (K : Int → Prop) : Prop :=
 IfB s0.1
 (K 1)
 (K 2)
noncomputable def tab_path_kind : Tab := ⟨[], []⟩
theorem path_kind_eq : (fun (x : PkTs path_kind_ps) (K : PkTs path_kind_rs → Prop) => path_kind_q x.1 (fun r0 => K (r0, ()))) = fun x K => PCode Try.prog tab_path_kind plan_path_kind (bodyOf Try.f34) (parS path_kind_ps x) (PRet Try.prog Try.f34.results.toList fun a st => outP path_kind_rs st a K) := by kernel_rfl
theorem path_kind_fq : FnQ Try.prog f_path_kind path_kind_ps path_kind_rs (fun x K => path_kind_q x.1 (fun r0 => K (r0, ()))) := (fnQ_of k_path_kind (tab := tab_path_kind) ⟨trivial, trivial⟩ rfl).of_eq path_kind_eq
noncomputable def ct_path_kind : Ct := ctRd path_kind_ps path_kind_rs (fun x K => path_kind_q x.1 (fun r0 => K (r0, ())))
theorem ct_path_kind_ok : SoundCt Try.prog f_path_kind ct_path_kind := ctRd_sound path_kind_fq
def pl_path_Put_6 : PLoop := ⟨[(7, PK.row T_uint8 [Kd.int .u8]), (19, PK.int .i64)], [1, 17, 18], []⟩
def pl_path_Put_10 : PLoop := ⟨[(7, PK.row T_uint8 [Kd.int .u8]), (35, PK.int .i64)], [1, 17, 18, 19, 33, 34], []⟩
def plan_path_Put : PPlan := ⟨[(8, [0, 1, 3, 4, 5, 6, 2, 7, 8, 9], [27])], [(6, pl_path_Put_6), (10, pl_path_Put_10)], [], [], [], []⟩
theorem k_path_Put : Known Try.prog f_path_Put Try.f25 plan_path_Put.plan (bodyOf Try.f25) := ⟨Try.func25, by kernel_rfl, by kernel_rfl, by kernel_rfl, by kernel_rfl, by kernel_rfl⟩
abbrev path_Put_ps : List Pk := [Pk.lst [Kd.bool, Kd.lst [Kd.int .u32]], Pk.bool]
abbrev path_Put_rs : List Pk := [Pk.own T_uint8 [Kd.int .u8], Pk.int .i64]
def path_Put_j1 (four1 : Bool) (j1 : List UInt8) (j2 : Int) (p0 : List (Bool × List UInt32)) (x19 : Int) (x21 : Bool × List UInt32) (x35 : Int) (next6 : (List UInt8 × Int × Unit) → Prop) (next10 : (List UInt8 × Int × Unit) → Prop) (K : List UInt8 → Int → Prop) : Prop :=
 next10 ((j1 ++ ([(ofI .u8 (IntKind.wrap .u8 (Int.fdiv j2 256))), (ofI .u8 (IntKind.wrap .u8 j2))] : List UInt8)), (IntKind.wrap .i64 (x35 + 1)), ())
def path_Put_j0 (four1 : Bool) (p0 : List (Bool × List UInt32)) (x19 : Int) (x21 : Bool × List UInt32) (x35 : Int) (next6 : (List UInt8 × Int × Unit) → Prop) (next10 : (List UInt8 × Int × Unit) → Prop) (j1 : List UInt8) (j2 : Int) (K : List UInt8 → Int → Prop) : Prop :=
 (0 : Int) ≤ 8 ∧
 j1.length + ([(ofI .u8 (IntKind.wrap .u8 (Int.fdiv j2 256))), (ofI .u8 (IntKind.wrap .u8 j2))] : List UInt8).length ≤ 140737488355232 ∧
 path_Put_j1 four1 j1 j2 p0 x19 x21 x35 next6 next10 K
def path_Put_l10 (four1 : Bool) (p0 : List (Bool × List UInt32)) (x19 : Int) (x21 : Bool × List UInt32) (next6 : (List UInt8 × Int × Unit) → Prop) (b7_1 : List UInt8) (x35 : Int) (next10 : (List UInt8 × Int × Unit) → Prop) (K : List UInt8 → Int → Prop) : Prop :=
 IfB (decide ((x35 : Int) < (x21.2.length : Int)))
 ((0 : Int) ≤ x35 ∧ AtN x21.2 x35.toNat fun x37 =>
 WfT ks_int_u32 x37 →
 IfB four1
 ((0 : Int) ≤ 24 ∧
 (0 : Int) ≤ 16 ∧
 b7_1.length + ([(ofI .u8 (IntKind.wrap .u8 (Int.fdiv (x37.toNat : Int) 16777216))), (ofI .u8 (IntKind.wrap .u8 (Int.fdiv (x37.toNat : Int) 65536)))] : List UInt8).length ≤ 140737488355232 ∧
 path_Put_j0 four1 p0 x19 x21 x35 next6 next10 (b7_1 ++ ([(ofI .u8 (IntKind.wrap .u8 (Int.fdiv (x37.toNat : Int) 16777216))), (ofI .u8 (IntKind.wrap .u8 (Int.fdiv (x37.toNat : Int) 65536)))] : List UInt8)) (x37.toNat : Int) K)
 (IfB (decide (((x37.toNat : Int) : Int) > 65535))
 (path_Put_j0 four1 p0 x19 x21 x35 next6 next10 b7_1 23456 K)
 (path_Put_j0 four1 p0 x19 x21 x35 next6 next10 b7_1 (x37.toNat : Int) K)))
 (next6 (b7_1, (IntKind.wrap .i64 (x19 + 1)), ()))
def path_Put_l6 (four1 : Bool) (p0 : List (Bool × List UInt32)) (b7 : List UInt8) (x19 : Int) (next6 : (List UInt8 × Int × Unit) → Prop) (K : List UInt8 → Int → Prop) : Prop :=
 IfB (decide ((x19 : Int) < (p0.length : Int)))
 ((0 : Int) ≤ x19 ∧ AtN p0 x19.toNat fun x21 =>
 WfT ks_bool_lst_int_u32 x21 →
 (WfPs path_kind_ps (x21, ()) →
 path_kind_q x21 (fun x25 =>
 WfPs path_kind_rs (x25, ()) →
 b7.length + ([(ofI .u8 x25), (ofI .u8 (IntKind.wrap .u8 (x21.2.length : Int)))] : List UInt8).length ≤ 140737488355232 ∧
 LoopJ (List UInt8 × Int × Unit) ((b7 ++ ([(ofI .u8 x25), (ofI .u8 (IntKind.wrap .u8 (x21.2.length : Int)))] : List UInt8)), (0 : Int), ()) fun y next =>
 WfY pl_path_Put_10.kinds y →
 path_Put_l10 four1 p0 x19 x21 next6 y.1 y.2.1 next K)))
 (K b7 0)
def path_Put_q (p0 : List (Bool × List UInt32)) (four1 : Bool) (K : List UInt8 → Int → Prop) : Prop :=
 (WfPs path_Check_ps (p0, ()) →
 path_Check_q p0 (fun x13 =>
 WfPs path_Check_rs (x13, ()) →
 IfB ((x13 : Int) != 0)
 (K ([] : List UInt8) x13)
 (LoopJ (List UInt8 × Int × Unit) (([] : List UInt8), (0 : Int), ()) fun y next =>
 WfY pl_path_Put_6.kinds y →
 path_Put_l6 four1 p0 y.1 y.2.1 next K)))
noncomputable def tab_path_Put : Tab := ⟨[(f_path_Check, ct_path_Check), (f_path_kind, ct_path_kind)], []⟩
theorem path_Put_eq : (fun (x : PkTs path_Put_ps) (K : PkTs path_Put_rs → Prop) => path_Put_q x.1 x.2.1 (fun r0 r1 => K (r0, r1, ()))) = fun x K => PCode Try.prog tab_path_Put plan_path_Put (bodyOf Try.f25) (parS path_Put_ps x) (PRet Try.prog Try.f25.results.toList fun a st => outP path_Put_rs st a K) := by kernel_rfl
theorem path_Put_fq : FnQ Try.prog f_path_Put path_Put_ps path_Put_rs (fun x K => path_Put_q x.1 x.2.1 (fun r0 r1 => K (r0, r1, ()))) := (fnQ_of k_path_Put (tab := tab_path_Put) ⟨⟨ct_path_Check_ok, ct_path_kind_ok, trivial⟩, trivial⟩ rfl).of_eq path_Put_eq
noncomputable def ct_path_Put : Ct := ctVal path_Put_ps path_Put_rs (fun x K => path_Put_q x.1 x.2.1 (fun r0 r1 => K (r0, r1, ())))
theorem ct_path_Put_ok : SoundCt Try.prog f_path_Put ct_path_Put := ctVal_sound path_Put_fq
def plan_slices_Growasl_byte_byte_at_nil : PPlan := ⟨[], [], [25], [], [], []⟩
theorem k_slices_Growasl_byte_byte_at_nil : Known Try.prog f_slices_Growasl_byte_byte Try.f46 plan_slices_Growasl_byte_byte_at_nil.plan (bodyOf Try.f46) := ⟨Try.func46, by kernel_rfl, by kernel_rfl, by kernel_rfl, by kernel_rfl, by kernel_rfl⟩
abbrev slices_Growasl_byte_byte_at_nil_ps : List Pk := [Pk.nil, Pk.int .i64]
abbrev slices_Growasl_byte_byte_at_nil_rs : List Pk := [Pk.own T_uint8 [Kd.int .u8]]
def slices_Growasl_byte_byte_at_nil_q (n1 : Int) (K : List UInt8 → Prop) : Prop :=
 IfB (decide ((n1 : Int) < 0))
 (False)
 (IfB (decide (((IntKind.wrap .i64 (n1 - (IntKind.wrap .i64 (0 - 0)))) : Int) > 0))
 ((0 : Int) ≤ 0 ∧ 0 ≤ (0 : Int) ∧
 (0 : Int) < (IntKind.wrap .i64 (n1 - (IntKind.wrap .i64 (0 - 0)))) ∧ (IntKind.wrap .i64 (n1 - (IntKind.wrap .i64 (0 - 0)))) ≤ 1000000000 ∧
 (0 : Int) ≤ 0 ∧ 0 ≤ ((List.replicate (IntKind.wrap .i64 (n1 - (IntKind.wrap .i64 (0 - 0)))).toNat ((ofI .u8 0) : UInt8)).length : Int) ∧
 K ((List.replicate (IntKind.wrap .i64 (n1 - (IntKind.wrap .i64 (0 - 0)))).toNat ((ofI .u8 0) : UInt8)).take 0))
 (K ([] : List UInt8)))
noncomputable def tab_slices_Growasl_byte_byte_at_nil : Tab := ⟨[], []⟩
theorem slices_Growasl_byte_byte_at_nil_eq : (fun (x : PkTs slices_Growasl_byte_byte_at_nil_ps) (K : PkTs slices_Growasl_byte_byte_at_nil_rs → Prop) => slices_Growasl_byte_byte_at_nil_q x.2.1 (fun r0 => K (r0, ()))) = fun x K => PCode Try.prog tab_slices_Growasl_byte_byte_at_nil plan_slices_Growasl_byte_byte_at_nil (bodyOf Try.f46) (parS slices_Growasl_byte_byte_at_nil_ps x) (PRet Try.prog Try.f46.results.toList fun a st => outP slices_Growasl_byte_byte_at_nil_rs st a K) := by kernel_rfl
theorem slices_Growasl_byte_byte_at_nil_fq : FnQ Try.prog f_slices_Growasl_byte_byte slices_Growasl_byte_byte_at_nil_ps slices_Growasl_byte_byte_at_nil_rs (fun x K => slices_Growasl_byte_byte_at_nil_q x.2.1 (fun r0 => K (r0, ()))) := (fnQ_of k_slices_Growasl_byte_byte_at_nil (tab := tab_slices_Growasl_byte_byte_at_nil) ⟨trivial, trivial⟩ rfl).of_eq slices_Growasl_byte_byte_at_nil_eq
noncomputable def ct_slices_Growasl_byte_byte_at_nil : Ct := ctVal slices_Growasl_byte_byte_at_nil_ps slices_Growasl_byte_byte_at_nil_rs (fun x K => slices_Growasl_byte_byte_at_nil_q x.2.1 (fun r0 => K (r0, ())))
theorem ct_slices_Growasl_byte_byte_at_nil_ok : SoundCt Try.prog f_slices_Growasl_byte_byte ct_slices_Growasl_byte_byte_at_nil := ctVal_sound slices_Growasl_byte_byte_at_nil_fq
def pl_slices_Concatasl_byte_byte_3 : PLoop := ⟨[(3, PK.int .i64), (11, PK.int .i64)], [0, 9, 10], []⟩
def pl_slices_Concatasl_byte_byte_11 : PLoop := ⟨[(6, PK.row T_uint8 [Kd.int .u8]), (27, PK.int .i64)], [25, 26], []⟩
def plan_slices_Concatasl_byte_byte : PPlan := ⟨[], [(3, pl_slices_Concatasl_byte_byte_3), (11, pl_slices_Concatasl_byte_byte_11)], [], [], [], []⟩
theorem k_slices_Concatasl_byte_byte : Known Try.prog f_slices_Concatasl_byte_byte Try.f41 plan_slices_Concatasl_byte_byte.plan (bodyOf Try.f41) := ⟨Try.func41, by kernel_rfl, by kernel_rfl, by kernel_rfl, by kernel_rfl, by kernel_rfl⟩
abbrev slices_Concatasl_byte_byte_ps : List Pk := [Pk.lst [Kd.lst [Kd.int .u8]]]
abbrev slices_Concatasl_byte_byte_rs : List Pk := [Pk.own T_uint8 [Kd.int .u8]]
def slices_Concatasl_byte_byte_l11 (slices0 : List (List UInt8)) (newslice6 : List UInt8) (x27 : Int) (next11 : (List UInt8 × Int × Unit) → Prop) (K : List UInt8 → Prop) : Prop :=
 IfB (decide ((x27 : Int) < (slices0.length : Int)))
 ((0 : Int) ≤ x27 ∧ AtN slices0 x27.toNat fun x29 =>
 WfT ks_lst_int_u8 x29 →
 newslice6.length + x29.length ≤ 140737488355232 ∧
 next11 ((newslice6 ++ x29), (IntKind.wrap .i64 (x27 + 1)), ()))
 (K newslice6)
def slices_Concatasl_byte_byte_l3 (slices0 : List (List UInt8)) (size3 : Int) (x11 : Int) (next3 : (Int × Int × Unit) → Prop) (K : List UInt8 → Prop) : Prop :=
 IfB (decide ((x11 : Int) < (slices0.length : Int)))
 ((0 : Int) ≤ x11 ∧ AtN slices0 x11.toNat fun x13 =>
 WfT ks_lst_int_u8 x13 →
 IfB (decide (((IntKind.wrap .i64 (size3 + (x13.length : Int))) : Int) < 0))
 (False)
 (next3 ((IntKind.wrap .i64 (size3 + (x13.length : Int))), (IntKind.wrap .i64 (x11 + 1)), ())))
 ((WfPs slices_Growasl_byte_byte_at_nil_ps ((), size3, ()) →
 slices_Growasl_byte_byte_at_nil_q size3 (fun x24 =>
 WfPs slices_Growasl_byte_byte_at_nil_rs (x24, ()) →
 LoopJ (List UInt8 × Int × Unit) (x24, (0 : Int), ()) fun y next =>
 WfY pl_slices_Concatasl_byte_byte_11.kinds y →
 slices_Concatasl_byte_byte_l11 slices0 y.1 y.2.1 next K)))
def slices_Concatasl_byte_byte_q (slices0 : List (List UInt8)) (K : List UInt8 → Prop) : Prop :=
 LoopJ (Int × Int × Unit) ((0 : Int), (0 : Int), ()) fun y next =>
 WfY pl_slices_Concatasl_byte_byte_3.kinds y →
 slices_Concatasl_byte_byte_l3 slices0 y.1 y.2.1 next K
noncomputable def tab_slices_Concatasl_byte_byte : Tab := ⟨[(f_slices_Growasl_byte_byte, ct_slices_Growasl_byte_byte_at_nil)], []⟩
theorem slices_Concatasl_byte_byte_eq : (fun (x : PkTs slices_Concatasl_byte_byte_ps) (K : PkTs slices_Concatasl_byte_byte_rs → Prop) => slices_Concatasl_byte_byte_q x.1 (fun r0 => K (r0, ()))) = fun x K => PCode Try.prog tab_slices_Concatasl_byte_byte plan_slices_Concatasl_byte_byte (bodyOf Try.f41) (parS slices_Concatasl_byte_byte_ps x) (PRet Try.prog Try.f41.results.toList fun a st => outP slices_Concatasl_byte_byte_rs st a K) := by kernel_rfl
theorem slices_Concatasl_byte_byte_fq : FnQ Try.prog f_slices_Concatasl_byte_byte slices_Concatasl_byte_byte_ps slices_Concatasl_byte_byte_rs (fun x K => slices_Concatasl_byte_byte_q x.1 (fun r0 => K (r0, ()))) := (fnQ_of k_slices_Concatasl_byte_byte (tab := tab_slices_Concatasl_byte_byte) ⟨⟨ct_slices_Growasl_byte_byte_at_nil_ok, trivial⟩, trivial⟩ rfl).of_eq slices_Concatasl_byte_byte_eq
noncomputable def ct_slices_Concatasl_byte_byte : Ct := ctVal slices_Concatasl_byte_byte_ps slices_Concatasl_byte_byte_rs (fun x K => slices_Concatasl_byte_byte_q x.1 (fun r0 => K (r0, ())))
theorem ct_slices_Concatasl_byte_byte_ok : SoundCt Try.prog f_slices_Concatasl_byte_byte ct_slices_Concatasl_byte_byte := ctVal_sound slices_Concatasl_byte_byte_fq
def plan_attr_writer_put : PPlan := ⟨[], [], [], [], [], []⟩
theorem k_attr_writer_put : Known Try.prog f_attr_writer_put Try.f30 plan_attr_writer_put.plan (bodyOf Try.f30) := ⟨Try.func30, by kernel_rfl, by kernel_rfl, by kernel_rfl, by kernel_rfl, by kernel_rfl⟩
abbrev attr_writer_put_ps : List Pk := [Pk.int .u8, Pk.int .i64, Pk.lst [Kd.lst [Kd.int .u8]]]
abbrev attr_writer_put_rs : List Pk := []
abbrev attr_writer_put_os : List PK := [PK.row T_uint8 [Kd.int .u8]]
def attr_writer_put_j0 (x11 : List UInt8) (j0 : List UInt8) (K : List UInt8 → Prop) : Prop :=
 j0.length + x11.length ≤ 140737488355232 ∧
 K (j0 ++ x11)
def attr_writer_put_q (c0 : List UInt8) (flags1 : Int) (kind2 : Int) (parts3 : List (List UInt8)) (K : List UInt8 → Prop) : Prop :=
 (WfPs slices_Concatasl_byte_byte_ps (parts3, ()) →
 slices_Concatasl_byte_byte_q parts3 (fun x11 =>
 WfPs slices_Concatasl_byte_byte_rs (x11, ()) →
 IfB (decide (((x11.length : Int) : Int) > 255))
 ((0 : Int) ≤ 8 ∧
 c0.length + ([(ofI .u8 (bitsOr .u8 flags1 16)), (ofI .u8 (IntKind.wrap .u8 kind2)), (ofI .u8 (IntKind.wrap .u8 (Int.fdiv (x11.length : Int) 256))), (ofI .u8 (IntKind.wrap .u8 (x11.length : Int)))] : List UInt8).length ≤ 140737488355232 ∧
 attr_writer_put_j0 x11 (c0 ++ ([(ofI .u8 (bitsOr .u8 flags1 16)), (ofI .u8 (IntKind.wrap .u8 kind2)), (ofI .u8 (IntKind.wrap .u8 (Int.fdiv (x11.length : Int) 256))), (ofI .u8 (IntKind.wrap .u8 (x11.length : Int)))] : List UInt8)) K)
 (c0.length + ([(ofI .u8 flags1), (ofI .u8 (IntKind.wrap .u8 kind2)), (ofI .u8 (IntKind.wrap .u8 (x11.length : Int)))] : List UInt8).length ≤ 140737488355232 ∧
 attr_writer_put_j0 x11 (c0 ++ ([(ofI .u8 flags1), (ofI .u8 (IntKind.wrap .u8 kind2)), (ofI .u8 (IntKind.wrap .u8 (x11.length : Int)))] : List UInt8)) K)))
noncomputable def tab_attr_writer_put : Tab := ⟨[(f_slices_Concatasl_byte_byte, ct_slices_Concatasl_byte_byte)], []⟩
theorem attr_writer_put_eq : (fun (o : PTup attr_writer_put_os) (x : PkTs attr_writer_put_ps) (K : PTup attr_writer_put_os → PkTs attr_writer_put_rs → Prop) => attr_writer_put_q o.1 x.1 x.2.1 x.2.2.1 (fun o0 => K (o0, ()) (()))) = fun o x K => PCode Try.prog tab_attr_writer_put plan_attr_writer_put (bodyOf Try.f30) (parO T_attr_writer attr_writer_put_os attr_writer_put_ps o x) (PRet Try.prog Try.f30.results.toList fun a st => outO T_attr_writer attr_writer_put_os attr_writer_put_rs st a K) := by kernel_rfl
theorem attr_writer_put_fq : FnO Try.prog f_attr_writer_put T_attr_writer attr_writer_put_os attr_writer_put_ps attr_writer_put_rs (fun o x K => attr_writer_put_q o.1 x.1 x.2.1 x.2.2.1 (fun o0 => K (o0, ()) (()))) := (fnO_of k_attr_writer_put (tab := tab_attr_writer_put) ⟨⟨ct_slices_Concatasl_byte_byte_ok, trivial⟩, trivial⟩ rfl).of_eq attr_writer_put_eq
noncomputable def ct_attr_writer_put : Ct := ctObj T_attr_writer attr_writer_put_os attr_writer_put_ps attr_writer_put_rs (fun o x K => attr_writer_put_q o.1 x.1 x.2.1 x.2.2.1 (fun o0 => K (o0, ()) (())))
theorem ct_attr_writer_put_ok : SoundCt Try.prog f_attr_writer_put ct_attr_writer_put := ctObj_sound attr_writer_put_fq
def plan_attr_writer_usual : PPlan := ⟨[], [], [], [], [], []⟩
theorem k_attr_writer_usual : Known Try.prog f_attr_writer_usual Try.f26 plan_attr_writer_usual.plan (bodyOf Try.f26) := ⟨Try.func26, by kernel_rfl, by kernel_rfl, by kernel_rfl, by kernel_rfl, by kernel_rfl⟩
abbrev attr_writer_usual_ps : List Pk := [Pk.int .i64, Pk.lst [Kd.lst [Kd.int .u8]]]
abbrev attr_writer_usual_rs : List Pk := []
abbrev attr_writer_usual_os : List PK := [PK.row T_uint8 [Kd.int .u8]]
def attr_writer_usual_q (c0 : List UInt8) (kind1 : Int) (parts2 : List (List UInt8)) (K : List UInt8 → Prop) : Prop :=
 (WfPs attr_known_ps (kind1, ()) →
 attr_known_q kind1 (fun x10r0 x10r1 =>
 WfPs attr_known_rs (x10r0, x10r1, ()) →
 (WfY attr_writer_put_os (c0, ()) →
 WfPs attr_writer_put_ps (x10r0, kind1, parts2, ()) →
 attr_writer_put_q c0 x10r0 kind1 parts2 (fun ox170 =>
 WfY attr_writer_put_os (ox170, ()) →
 WfPs attr_writer_put_rs () →
 K ox170))))
noncomputable def tab_attr_writer_usual : Tab := ⟨[(f_attr_writer_put, ct_attr_writer_put), (f_attr_known, ct_attr_known)], []⟩
theorem attr_writer_usual_eq : (fun (o : PTup attr_writer_usual_os) (x : PkTs attr_writer_usual_ps) (K : PTup attr_writer_usual_os → PkTs attr_writer_usual_rs → Prop) => attr_writer_usual_q o.1 x.1 x.2.1 (fun o0 => K (o0, ()) (()))) = fun o x K => PCode Try.prog tab_attr_writer_usual plan_attr_writer_usual (bodyOf Try.f26) (parO T_attr_writer attr_writer_usual_os attr_writer_usual_ps o x) (PRet Try.prog Try.f26.results.toList fun a st => outO T_attr_writer attr_writer_usual_os attr_writer_usual_rs st a K) := by kernel_rfl
theorem attr_writer_usual_fq : FnO Try.prog f_attr_writer_usual T_attr_writer attr_writer_usual_os attr_writer_usual_ps attr_writer_usual_rs (fun o x K => attr_writer_usual_q o.1 x.1 x.2.1 (fun o0 => K (o0, ()) (()))) := (fnO_of k_attr_writer_usual (tab := tab_attr_writer_usual) ⟨⟨ct_attr_writer_put_ok, ct_attr_known_ok, trivial⟩, trivial⟩ rfl).of_eq attr_writer_usual_eq
noncomputable def ct_attr_writer_usual : Ct := ctObj T_attr_writer attr_writer_usual_os attr_writer_usual_ps attr_writer_usual_rs (fun o x K => attr_writer_usual_q o.1 x.1 x.2.1 (fun o0 => K (o0, ()) (())))
theorem ct_attr_writer_usual_ok : SoundCt Try.prog f_attr_writer_usual ct_attr_writer_usual := ctObj_sound attr_writer_usual_fq
def plan_attr_num : PPlan := ⟨[], [], [], [], [], []⟩
theorem k_attr_num : Known Try.prog f_attr_num Try.f27 plan_attr_num.plan (bodyOf Try.f27) := ⟨Try.func27, by kernel_rfl, by kernel_rfl, by kernel_rfl, by kernel_rfl, by kernel_rfl⟩
abbrev attr_num_ps : List Pk := [Pk.int .u32]
abbrev attr_num_rs : List Pk := [Pk.own T_uint8 [Kd.int .u8]]
def attr_num_q (n0 : Int) (K : List UInt8 → Prop) : Prop :=
 (0 : Int) ≤ 24 ∧
 (0 : Int) ≤ 16 ∧
 (0 : Int) ≤ 8 ∧
 K ([(ofI .u8 (IntKind.wrap .u8 (Int.fdiv n0 16777216))), (ofI .u8 (IntKind.wrap .u8 (Int.fdiv n0 65536))), (ofI .u8 (IntKind.wrap .u8 (Int.fdiv n0 256))), (ofI .u8 (IntKind.wrap .u8 n0))] : List UInt8)
noncomputable def tab_attr_num : Tab := ⟨[], []⟩
theorem attr_num_eq : (fun (x : PkTs attr_num_ps) (K : PkTs attr_num_rs → Prop) => attr_num_q x.1 (fun r0 => K (r0, ()))) = fun x K => PCode Try.prog tab_attr_num plan_attr_num (bodyOf Try.f27) (parS attr_num_ps x) (PRet Try.prog Try.f27.results.toList fun a st => outP attr_num_rs st a K) := by kernel_rfl
theorem attr_num_fq : FnQ Try.prog f_attr_num attr_num_ps attr_num_rs (fun x K => attr_num_q x.1 (fun r0 => K (r0, ()))) := (fnQ_of k_attr_num (tab := tab_attr_num) ⟨trivial, trivial⟩ rfl).of_eq attr_num_eq
noncomputable def ct_attr_num : Ct := ctVal attr_num_ps attr_num_rs (fun x K => attr_num_q x.1 (fun r0 => K (r0, ())))
theorem ct_attr_num_ok : SoundCt Try.prog f_attr_num ct_attr_num := ctVal_sound attr_num_fq
def plan_attr_system : PPlan := ⟨[], [], [], [], [], []⟩
theorem k_attr_system : Known Try.prog f_attr_system Try.f36 plan_attr_system.plan (bodyOf Try.f36) := ⟨Try.func36, by kernel_rfl, by kernel_rfl, by kernel_rfl, by kernel_rfl, by kernel_rfl⟩
abbrev attr_system_ps : List Pk := [Pk.int .u32, Pk.bool]
abbrev attr_system_rs : List Pk := [Pk.lst [Kd.int .u8]]
def attr_system_j0 (j0 : Int) (K : List UInt8 → Prop) : Prop :=
 (WfPs attr_num_ps (j0, ()) →
 attr_num_q j0 (fun x13 =>
 WfPs attr_num_rs (x13, ()) →
 (0 : Int) ≤ 2 ∧ 2 ≤ (x13.length : Int) ∧
 K (x13.drop 2)))
def attr_system_q (as0 : Int) (four1 : Bool) (K : List UInt8 → Prop) : Prop :=
 IfB four1
 ((WfPs attr_num_ps (as0, ()) →
 attr_num_q as0 (fun x8 =>
 WfPs attr_num_rs (x8, ()) →
 K x8)))
 (IfB (decide ((as0 : Int) > 65535))
 (attr_system_j0 23456 K)
 (attr_system_j0 as0 K))
noncomputable def tab_attr_system : Tab := ⟨[(f_attr_num, ct_attr_num)], []⟩
theorem attr_system_eq : (fun (x : PkTs attr_system_ps) (K : PkTs attr_system_rs → Prop) => attr_system_q x.1 x.2.1 (fun r0 => K (r0, ()))) = fun x K => PCode Try.prog tab_attr_system plan_attr_system (bodyOf Try.f36) (parS attr_system_ps x) (PRet Try.prog Try.f36.results.toList fun a st => outP attr_system_rs st a K) := by kernel_rfl
theorem attr_system_fq : FnQ Try.prog f_attr_system attr_system_ps attr_system_rs (fun x K => attr_system_q x.1 x.2.1 (fun r0 => K (r0, ()))) := (fnQ_of k_attr_system (tab := tab_attr_system) ⟨⟨ct_attr_num_ok, trivial⟩, trivial⟩ rfl).of_eq attr_system_eq
noncomputable def ct_attr_system : Ct := ctVal attr_system_ps attr_system_rs (fun x K => attr_system_q x.1 x.2.1 (fun r0 => K (r0, ())))
theorem ct_attr_system_ok : SoundCt Try.prog f_attr_system ct_attr_system := ctVal_sound attr_system_fq
def pl_attr_writer_perhaps_10 : PLoop := ⟨[(6, PK.row T_sl_uint8 [Kd.lst [Kd.int .u8]]), (40, PK.int .i64)], [0, 38, 39], []⟩
def plan_attr_writer_perhaps : PPlan := ⟨[(6, [0, 1, 2, 3, 5, 6, 4, 7, 8, 9], [29])], [(10, pl_attr_writer_perhaps_10)], [], [], [], []⟩
theorem k_attr_writer_perhaps : Known Try.prog f_attr_writer_perhaps Try.f28 plan_attr_writer_perhaps.plan (bodyOf Try.f28) := ⟨Try.func28, by kernel_rfl, by kernel_rfl, by kernel_rfl, by kernel_rfl, by kernel_rfl⟩
abbrev attr_writer_perhaps_ps : List Pk := [Pk.agg [Kd.int .i64, Kd.lst [Kd.bool, Kd.lst [Kd.int .u32]], Kd.int .u32, Kd.bool, Kd.int .u32, Kd.bool, Kd.int .u32, Kd.bool, Kd.bool, Kd.int .u32, Kd.int .u32, Kd.lst [Kd.int .u32], Kd.lst [Kd.int .i64, Kd.lst [Kd.int .u8]]], Pk.bool]
abbrev attr_writer_perhaps_rs : List Pk := []
abbrev attr_writer_perhaps_os : List PK := [PK.row T_uint8 [Kd.int .u8]]
def attr_writer_perhaps_l10 (j0_2 : List UInt8) (a1 : Int × List (Bool × List UInt32) × UInt32 × Bool × UInt32 × Bool × UInt32 × Bool × Bool × UInt32 × UInt32 × List UInt32 × List (Int × List UInt8)) (l6 : List (List UInt8)) (x40 : Int) (next10 : (List (List UInt8) × Int × Unit) → Prop) (K : List UInt8 → Prop) : Prop :=
 IfB (decide ((x40 : Int) < (a1.2.2.2.2.2.2.2.2.2.2.2.1.length : Int)))
 ((0 : Int) ≤ x40 ∧ AtN a1.2.2.2.2.2.2.2.2.2.2.2.1 x40.toNat fun x42 =>
 WfT ks_int_u32 x42 →
 (WfPs attr_num_ps ((x42.toNat : Int), ()) →
 attr_num_q (x42.toNat : Int) (fun x46 =>
 WfPs attr_num_rs (x46, ()) →
 l6.length + ([x46] : List (List UInt8)).length ≤ 5864062014709 ∧
 next10 ((l6 ++ ([x46] : List (List UInt8))), (IntKind.wrap .i64 (x40 + 1)), ()))))
 ((WfY attr_writer_usual_os (j0_2, ()) →
 WfPs attr_writer_usual_ps ((8 : Int), l6, ()) →
 attr_writer_usual_q j0_2 (8 : Int) l6 (fun ox520 =>
 WfY attr_writer_usual_os (ox520, ()) →
 WfPs attr_writer_usual_rs () →
 K ox520)))
def attr_writer_perhaps_j2 (a1 : Int × List (Bool × List UInt32) × UInt32 × Bool × UInt32 × Bool × UInt32 × Bool × Bool × UInt32 × UInt32 × List UInt32 × List (Int × List UInt8)) (j0_2 : List UInt8) (K : List UInt8 → Prop) : Prop :=
 IfB (decide (((a1.2.2.2.2.2.2.2.2.2.2.2.1.length : Int) : Int) > 0))
 (LoopJ (List (List UInt8) × Int × Unit) (([] : List (List UInt8)), (0 : Int), ()) fun y next =>
 WfY pl_attr_writer_perhaps_10.kinds y →
 attr_writer_perhaps_l10 j0_2 a1 y.1 y.2.1 next K)
 (K j0_2)
def attr_writer_perhaps_j1 (four2 : Bool) (a1 : Int × List (Bool × List UInt32) × UInt32 × Bool × UInt32 × Bool × UInt32 × Bool × Bool × UInt32 × UInt32 × List UInt32 × List (Int × List UInt8)) (j0_1 : List UInt8) (K : List UInt8 → Prop) : Prop :=
 IfB a1.2.2.2.2.2.2.2.2.1
 ((WfPs attr_system_ps ((a1.2.2.2.2.2.2.2.2.2.1.toNat : Int), four2, ()) →
 attr_system_q (a1.2.2.2.2.2.2.2.2.2.1.toNat : Int) four2 (fun x27 =>
 WfPs attr_system_rs (x27, ()) →
 (WfPs attr_num_ps ((a1.2.2.2.2.2.2.2.2.2.2.1.toNat : Int), ()) →
 attr_num_q (a1.2.2.2.2.2.2.2.2.2.2.1.toNat : Int) (fun x30 =>
 WfPs attr_num_rs (x30, ()) →
 (WfY attr_writer_usual_os (j0_1, ()) →
 WfPs attr_writer_usual_ps ((7 : Int), ([x27, x30] : List (List UInt8)), ()) →
 attr_writer_usual_q j0_1 (7 : Int) ([x27, x30] : List (List UInt8)) (fun ox320 =>
 WfY attr_writer_usual_os (ox320, ()) →
 WfPs attr_writer_usual_rs () →
 attr_writer_perhaps_j2 a1 ox320 K)))))))
 (attr_writer_perhaps_j2 a1 j0_1 K)
def attr_writer_perhaps_j0 (four2 : Bool) (a1 : Int × List (Bool × List UInt32) × UInt32 × Bool × UInt32 × Bool × UInt32 × Bool × Bool × UInt32 × UInt32 × List UInt32 × List (Int × List UInt8)) (j0 : List UInt8) (K : List UInt8 → Prop) : Prop :=
 IfB a1.2.2.2.2.2.2.2.1
 ((WfY attr_writer_usual_os (j0, ()) →
 WfPs attr_writer_usual_ps ((6 : Int), ([] : List (List UInt8)), ()) →
 attr_writer_usual_q j0 (6 : Int) ([] : List (List UInt8)) (fun ox200 =>
 WfY attr_writer_usual_os (ox200, ()) →
 WfPs attr_writer_usual_rs () →
 attr_writer_perhaps_j1 four2 a1 ox200 K)))
 (attr_writer_perhaps_j1 four2 a1 j0 K)
def attr_writer_perhaps_q (c0 : List UInt8) (a1 : Int × List (Bool × List UInt32) × UInt32 × Bool × UInt32 × Bool × UInt32 × Bool × Bool × UInt32 × UInt32 × List UInt32 × List (Int × List UInt8)) (four2 : Bool) (K : List UInt8 → Prop) : Prop :=
 IfB a1.2.2.2.1
 ((WfPs attr_num_ps ((a1.2.2.2.2.1.toNat : Int), ()) →
 attr_num_q (a1.2.2.2.2.1.toNat : Int) (fun x14 =>
 WfPs attr_num_rs (x14, ()) →
 (WfY attr_writer_usual_os (c0, ()) →
 WfPs attr_writer_usual_ps ((4 : Int), ([x14] : List (List UInt8)), ()) →
 attr_writer_usual_q c0 (4 : Int) ([x14] : List (List UInt8)) (fun ox160 =>
 WfY attr_writer_usual_os (ox160, ()) →
 WfPs attr_writer_usual_rs () →
 attr_writer_perhaps_j0 four2 a1 ox160 K)))))
 (attr_writer_perhaps_j0 four2 a1 c0 K)
noncomputable def tab_attr_writer_perhaps : Tab := ⟨[(f_attr_writer_usual, ct_attr_writer_usual), (f_attr_num, ct_attr_num), (f_attr_system, ct_attr_system)], []⟩
theorem attr_writer_perhaps_eq : (fun (o : PTup attr_writer_perhaps_os) (x : PkTs attr_writer_perhaps_ps) (K : PTup attr_writer_perhaps_os → PkTs attr_writer_perhaps_rs → Prop) => attr_writer_perhaps_q o.1 x.1 x.2.1 (fun o0 => K (o0, ()) (()))) = fun o x K => PCode Try.prog tab_attr_writer_perhaps plan_attr_writer_perhaps (bodyOf Try.f28) (parO T_attr_writer attr_writer_perhaps_os attr_writer_perhaps_ps o x) (PRet Try.prog Try.f28.results.toList fun a st => outO T_attr_writer attr_writer_perhaps_os attr_writer_perhaps_rs st a K) := by kernel_rfl
theorem attr_writer_perhaps_fq : FnO Try.prog f_attr_writer_perhaps T_attr_writer attr_writer_perhaps_os attr_writer_perhaps_ps attr_writer_perhaps_rs (fun o x K => attr_writer_perhaps_q o.1 x.1 x.2.1 (fun o0 => K (o0, ()) (()))) := (fnO_of k_attr_writer_perhaps (tab := tab_attr_writer_perhaps) ⟨⟨ct_attr_writer_usual_ok, ct_attr_num_ok, ct_attr_system_ok, trivial⟩, trivial⟩ rfl).of_eq attr_writer_perhaps_eq
noncomputable def ct_attr_writer_perhaps : Ct := ctObj T_attr_writer attr_writer_perhaps_os attr_writer_perhaps_ps attr_writer_perhaps_rs (fun o x K => attr_writer_perhaps_q o.1 x.1 x.2.1 (fun o0 => K (o0, ()) (())))
theorem ct_attr_writer_perhaps_ok : SoundCt Try.prog f_attr_writer_perhaps ct_attr_writer_perhaps := ctObj_sound attr_writer_perhaps_fq
def plan_attr_great_1_1 : PPlan := ⟨[], [], [], [], [], []⟩
theorem k_attr_great_1_1 : Known Try.prog f_attr_great_1_1 Try.f40 plan_attr_great_1_1.plan (bodyOf Try.f40) := ⟨Try.func40, by kernel_rfl, by kernel_rfl, by kernel_rfl, by kernel_rfl, by kernel_rfl⟩
abbrev attr_great_1_1_ps : List Pk := [Pk.int .u32]
abbrev attr_great_1_1_rs : List Pk := [Pk.bool]
def attr_great_1_1_q (as0 : Int) (K : Bool → Prop) : Prop :=
 K (decide ((as0 : Int) > 65535))
noncomputable def tab_attr_great_1_1 : Tab := ⟨[], []⟩
theorem attr_great_1_1_eq : (fun (x : PkTs attr_great_1_1_ps) (K : PkTs attr_great_1_1_rs → Prop) => attr_great_1_1_q x.1 (fun r0 => K (r0, ()))) = fun x K => PCode Try.prog tab_attr_great_1_1 plan_attr_great_1_1 (bodyOf Try.f40) (parS attr_great_1_1_ps x) (PRet Try.prog Try.f40.results.toList fun a st => outP attr_great_1_1_rs st a K) := by kernel_rfl
theorem attr_great_1_1_fq : FnQ Try.prog f_attr_great_1_1 attr_great_1_1_ps attr_great_1_1_rs (fun x K => attr_great_1_1_q x.1 (fun r0 => K (r0, ()))) := (fnQ_of k_attr_great_1_1 (tab := tab_attr_great_1_1) ⟨trivial, trivial⟩ rfl).of_eq attr_great_1_1_eq
noncomputable def ct_attr_great_1_1 : Ct := ctRd attr_great_1_1_ps attr_great_1_1_rs (fun x K => attr_great_1_1_q x.1 (fun r0 => K (r0, ())))
theorem ct_attr_great_1_1_ok : SoundCt Try.prog f_attr_great_1_1 ct_attr_great_1_1 := ctRd_sound attr_great_1_1_fq
def pl_slices_IndexFuncasl_uint32_uint32_at_attr_great_1_1_2 : PLoop := ⟨[(8, PK.int .i64)], [0, 1, 7], []⟩
def plan_slices_IndexFuncasl_uint32_uint32_at_attr_great_1_1 : PPlan := ⟨[], [(2, pl_slices_IndexFuncasl_uint32_uint32_at_attr_great_1_1_2)], [], [], [], []⟩
theorem k_slices_IndexFuncasl_uint32_uint32_at_attr_great_1_1 : Known Try.prog f_slices_IndexFuncasl_uint32_uint32 Try.f45 plan_slices_IndexFuncasl_uint32_uint32_at_attr_great_1_1.plan (bodyOf Try.f45) := ⟨Try.func45, by kernel_rfl, by kernel_rfl, by kernel_rfl, by kernel_rfl, by kernel_rfl⟩
abbrev slices_IndexFuncasl_uint32_uint32_at_attr_great_1_1_ps : List Pk := [Pk.lst [Kd.int .u32], Pk.fn 40]
abbrev slices_IndexFuncasl_uint32_uint32_at_attr_great_1_1_rs : List Pk := [Pk.int .i64]
def slices_IndexFuncasl_uint32_uint32_at_attr_great_1_1_l2 (s0 : List UInt32) (x8 : Int) (next2 : (Int × Unit) → Prop) (K : Int → Prop) : Prop :=
 IfB (decide ((x8 : Int) < (s0.length : Int)))
 ((0 : Int) ≤ x8 ∧ AtN s0 x8.toNat fun x14 =>
 WfT ks_int_u32 x14 →
 (WfPs attr_great_1_1_ps ((x14.toNat : Int), ()) →
 attr_great_1_1_q (x14.toNat : Int) (fun x16 =>
 WfPs attr_great_1_1_rs (x16, ()) →
 IfB x16
 (K x8)
 (next2 ((IntKind.wrap .i64 (x8 + 1)), ())))))
 (K (-1))
def slices_IndexFuncasl_uint32_uint32_at_attr_great_1_1_q (s0 : List UInt32) (K : Int → Prop) : Prop :=
 LoopJ (Int × Unit) ((0 : Int), ()) fun y next =>
 WfY pl_slices_IndexFuncasl_uint32_uint32_at_attr_great_1_1_2.kinds y →
 slices_IndexFuncasl_uint32_uint32_at_attr_great_1_1_l2 s0 y.1 next K
noncomputable def tab_slices_IndexFuncasl_uint32_uint32_at_attr_great_1_1 : Tab := ⟨[(f_attr_great_1_1, ct_attr_great_1_1)], []⟩
theorem slices_IndexFuncasl_uint32_uint32_at_attr_great_1_1_eq : (fun (x : PkTs slices_IndexFuncasl_uint32_uint32_at_attr_great_1_1_ps) (K : PkTs slices_IndexFuncasl_uint32_uint32_at_attr_great_1_1_rs → Prop) => slices_IndexFuncasl_uint32_uint32_at_attr_great_1_1_q x.1 (fun r0 => K (r0, ()))) = fun x K => PCode Try.prog tab_slices_IndexFuncasl_uint32_uint32_at_attr_great_1_1 plan_slices_IndexFuncasl_uint32_uint32_at_attr_great_1_1 (bodyOf Try.f45) (parS slices_IndexFuncasl_uint32_uint32_at_attr_great_1_1_ps x) (PRet Try.prog Try.f45.results.toList fun a st => outP slices_IndexFuncasl_uint32_uint32_at_attr_great_1_1_rs st a K) := by kernel_rfl
theorem slices_IndexFuncasl_uint32_uint32_at_attr_great_1_1_fq : FnQ Try.prog f_slices_IndexFuncasl_uint32_uint32 slices_IndexFuncasl_uint32_uint32_at_attr_great_1_1_ps slices_IndexFuncasl_uint32_uint32_at_attr_great_1_1_rs (fun x K => slices_IndexFuncasl_uint32_uint32_at_attr_great_1_1_q x.1 (fun r0 => K (r0, ()))) := (fnQ_of k_slices_IndexFuncasl_uint32_uint32_at_attr_great_1_1 (tab := tab_slices_IndexFuncasl_uint32_uint32_at_attr_great_1_1) ⟨⟨ct_attr_great_1_1_ok, trivial⟩, trivial⟩ rfl).of_eq slices_IndexFuncasl_uint32_uint32_at_attr_great_1_1_eq
noncomputable def ct_slices_IndexFuncasl_uint32_uint32_at_attr_great_1_1 : Ct := ctRd slices_IndexFuncasl_uint32_uint32_at_attr_great_1_1_ps slices_IndexFuncasl_uint32_uint32_at_attr_great_1_1_rs (fun x K => slices_IndexFuncasl_uint32_uint32_at_attr_great_1_1_q x.1 (fun r0 => K (r0, ())))
theorem ct_slices_IndexFuncasl_uint32_uint32_at_attr_great_1_1_ok : SoundCt Try.prog f_slices_IndexFuncasl_uint32_uint32 ct_slices_IndexFuncasl_uint32_uint32_at_attr_great_1_1 := ctRd_sound slices_IndexFuncasl_uint32_uint32_at_attr_great_1_1_fq
def plan_slices_ContainsFuncasl_uint32_uint32_at_attr_great_1_1 : PPlan := ⟨[], [], [], [], [], []⟩
theorem k_slices_ContainsFuncasl_uint32_uint32_at_attr_great_1_1 : Known Try.prog f_slices_ContainsFuncasl_uint32_uint32 Try.f39 plan_slices_ContainsFuncasl_uint32_uint32_at_attr_great_1_1.plan (bodyOf Try.f39) := ⟨Try.func39, by kernel_rfl, by kernel_rfl, by kernel_rfl, by kernel_rfl, by kernel_rfl⟩
abbrev slices_ContainsFuncasl_uint32_uint32_at_attr_great_1_1_ps : List Pk := [Pk.lst [Kd.int .u32], Pk.fn 40]
abbrev slices_ContainsFuncasl_uint32_uint32_at_attr_great_1_1_rs : List Pk := [Pk.bool]
def slices_ContainsFuncasl_uint32_uint32_at_attr_great_1_1_q (s0 : List UInt32) (K : Bool → Prop) : Prop :=
 (WfPs slices_IndexFuncasl_uint32_uint32_at_attr_great_1_1_ps (s0, (), ()) →
 slices_IndexFuncasl_uint32_uint32_at_attr_great_1_1_q s0 (fun x7 =>
 WfPs slices_IndexFuncasl_uint32_uint32_at_attr_great_1_1_rs (x7, ()) →
 K (decide ((x7 : Int) ≥ 0))))
noncomputable def tab_slices_ContainsFuncasl_uint32_uint32_at_attr_great_1_1 : Tab := ⟨[(f_slices_IndexFuncasl_uint32_uint32, ctDisp 1 [(f_attr_great_1_1, ct_slices_IndexFuncasl_uint32_uint32_at_attr_great_1_1)])], []⟩
theorem slices_ContainsFuncasl_uint32_uint32_at_attr_great_1_1_eq : (fun (x : PkTs slices_ContainsFuncasl_uint32_uint32_at_attr_great_1_1_ps) (K : PkTs slices_ContainsFuncasl_uint32_uint32_at_attr_great_1_1_rs → Prop) => slices_ContainsFuncasl_uint32_uint32_at_attr_great_1_1_q x.1 (fun r0 => K (r0, ()))) = fun x K => PCode Try.prog tab_slices_ContainsFuncasl_uint32_uint32_at_attr_great_1_1 plan_slices_ContainsFuncasl_uint32_uint32_at_attr_great_1_1 (bodyOf Try.f39) (parS slices_ContainsFuncasl_uint32_uint32_at_attr_great_1_1_ps x) (PRet Try.prog Try.f39.results.toList fun a st => outP slices_ContainsFuncasl_uint32_uint32_at_attr_great_1_1_rs st a K) := by kernel_rfl
theorem slices_ContainsFuncasl_uint32_uint32_at_attr_great_1_1_fq : FnQ Try.prog f_slices_ContainsFuncasl_uint32_uint32 slices_ContainsFuncasl_uint32_uint32_at_attr_great_1_1_ps slices_ContainsFuncasl_uint32_uint32_at_attr_great_1_1_rs (fun x K => slices_ContainsFuncasl_uint32_uint32_at_attr_great_1_1_q x.1 (fun r0 => K (r0, ()))) := (fnQ_of k_slices_ContainsFuncasl_uint32_uint32_at_attr_great_1_1 (tab := tab_slices_ContainsFuncasl_uint32_uint32_at_attr_great_1_1) ⟨⟨ctDisp_sound ⟨ct_slices_IndexFuncasl_uint32_uint32_at_attr_great_1_1_ok, trivial⟩, trivial⟩, trivial⟩ rfl).of_eq slices_ContainsFuncasl_uint32_uint32_at_attr_great_1_1_eq
noncomputable def ct_slices_ContainsFuncasl_uint32_uint32_at_attr_great_1_1 : Ct := ctRd slices_ContainsFuncasl_uint32_uint32_at_attr_great_1_1_ps slices_ContainsFuncasl_uint32_uint32_at_attr_great_1_1_rs (fun x K => slices_ContainsFuncasl_uint32_uint32_at_attr_great_1_1_q x.1 (fun r0 => K (r0, ())))
theorem ct_slices_ContainsFuncasl_uint32_uint32_at_attr_great_1_1_ok : SoundCt Try.prog f_slices_ContainsFuncasl_uint32_uint32 ct_slices_ContainsFuncasl_uint32_uint32_at_attr_great_1_1 := ctRd_sound slices_ContainsFuncasl_uint32_uint32_at_attr_great_1_1_fq
def plan_attr_great_1 : PPlan := ⟨[], [], [], [], [], []⟩
theorem k_attr_great_1 : Known Try.prog f_attr_great_1 Try.f38 plan_attr_great_1.plan (bodyOf Try.f38) := ⟨Try.func38, by kernel_rfl, by kernel_rfl, by kernel_rfl, by kernel_rfl, by kernel_rfl⟩
abbrev attr_great_1_ps : List Pk := [Pk.agg [Kd.bool, Kd.lst [Kd.int .u32]]]
abbrev attr_great_1_rs : List Pk := [Pk.bool]
def attr_great_1_q (s0 : Bool × List UInt32) (K : Bool → Prop) : Prop :=
 (WfPs slices_ContainsFuncasl_uint32_uint32_at_attr_great_1_1_ps (s0.2, (), ()) →
 slices_ContainsFuncasl_uint32_uint32_at_attr_great_1_1_q s0.2 (fun x5 =>
 WfPs slices_ContainsFuncasl_uint32_uint32_at_attr_great_1_1_rs (x5, ()) →
 K x5))
noncomputable def tab_attr_great_1 : Tab := ⟨[(f_slices_ContainsFuncasl_uint32_uint32, ctDisp 1 [(f_attr_great_1_1, ct_slices_ContainsFuncasl_uint32_uint32_at_attr_great_1_1)])], []⟩
theorem attr_great_1_eq : (fun (x : PkTs attr_great_1_ps) (K : PkTs attr_great_1_rs → Prop) => attr_great_1_q x.1 (fun r0 => K (r0, ()))) = fun x K => PCode Try.prog tab_attr_great_1 plan_attr_great_1 (bodyOf Try.f38) (parS attr_great_1_ps x) (PRet Try.prog Try.f38.results.toList fun a st => outP attr_great_1_rs st a K) := by kernel_rfl
theorem attr_great_1_fq : FnQ Try.prog f_attr_great_1 attr_great_1_ps attr_great_1_rs (fun x K => attr_great_1_q x.1 (fun r0 => K (r0, ()))) := (fnQ_of k_attr_great_1 (tab := tab_attr_great_1) ⟨⟨ctDisp_sound ⟨ct_slices_ContainsFuncasl_uint32_uint32_at_attr_great_1_1_ok, trivial⟩, trivial⟩, trivial⟩ rfl).of_eq attr_great_1_eq
noncomputable def ct_attr_great_1 : Ct := ctRd attr_great_1_ps attr_great_1_rs (fun x K => attr_great_1_q x.1 (fun r0 => K (r0, ())))
theorem ct_attr_great_1_ok : SoundCt Try.prog f_attr_great_1 ct_attr_great_1 := ctRd_sound attr_great_1_fq
def pl_slices_IndexFuncasl_api_Segment_api_Segment_at_attr_great_1_2 : PLoop := ⟨[(8, PK.int .i64)], [0, 1, 7], []⟩
def plan_slices_IndexFuncasl_api_Segment_api_Segment_at_attr_great_1 : PPlan := ⟨[], [(2, pl_slices_IndexFuncasl_api_Segment_api_Segment_at_attr_great_1_2)], [], [], [], []⟩
theorem k_slices_IndexFuncasl_api_Segment_api_Segment_at_attr_great_1 : Known Try.prog f_slices_IndexFuncasl_api_Segment_api_Segment Try.f44 plan_slices_IndexFuncasl_api_Segment_api_Segment_at_attr_great_1.plan (bodyOf Try.f44) := ⟨Try.func44, by kernel_rfl, by kernel_rfl, by kernel_rfl, by kernel_rfl, by kernel_rfl⟩
abbrev slices_IndexFuncasl_api_Segment_api_Segment_at_attr_great_1_ps : List Pk := [Pk.lst [Kd.bool, Kd.lst [Kd.int .u32]], Pk.fn 38]
abbrev slices_IndexFuncasl_api_Segment_api_Segment_at_attr_great_1_rs : List Pk := [Pk.int .i64]
def slices_IndexFuncasl_api_Segment_api_Segment_at_attr_great_1_l2 (s0 : List (Bool × List UInt32)) (x8 : Int) (next2 : (Int × Unit) → Prop) (K : Int → Prop) : Prop :=
 IfB (decide ((x8 : Int) < (s0.length : Int)))
 ((0 : Int) ≤ x8 ∧ AtN s0 x8.toNat fun x14 =>
 WfT ks_bool_lst_int_u32 x14 →
 (WfPs attr_great_1_ps (x14, ()) →
 attr_great_1_q x14 (fun x16 =>
 WfPs attr_great_1_rs (x16, ()) →
 IfB x16
 (K x8)
 (next2 ((IntKind.wrap .i64 (x8 + 1)), ())))))
 (K (-1))
def slices_IndexFuncasl_api_Segment_api_Segment_at_attr_great_1_q (s0 : List (Bool × List UInt32)) (K : Int → Prop) : Prop :=
 LoopJ (Int × Unit) ((0 : Int), ()) fun y next =>
 WfY pl_slices_IndexFuncasl_api_Segment_api_Segment_at_attr_great_1_2.kinds y →
 slices_IndexFuncasl_api_Segment_api_Segment_at_attr_great_1_l2 s0 y.1 next K
noncomputable def tab_slices_IndexFuncasl_api_Segment_api_Segment_at_attr_great_1 : Tab := ⟨[(f_attr_great_1, ct_attr_great_1)], []⟩
theorem slices_IndexFuncasl_api_Segment_api_Segment_at_attr_great_1_eq : (fun (x : PkTs slices_IndexFuncasl_api_Segment_api_Segment_at_attr_great_1_ps) (K : PkTs slices_IndexFuncasl_api_Segment_api_Segment_at_attr_great_1_rs → Prop) => slices_IndexFuncasl_api_Segment_api_Segment_at_attr_great_1_q x.1 (fun r0 => K (r0, ()))) = fun x K => PCode Try.prog tab_slices_IndexFuncasl_api_Segment_api_Segment_at_attr_great_1 plan_slices_IndexFuncasl_api_Segment_api_Segment_at_attr_great_1 (bodyOf Try.f44) (parS slices_IndexFuncasl_api_Segment_api_Segment_at_attr_great_1_ps x) (PRet Try.prog Try.f44.results.toList fun a st => outP slices_IndexFuncasl_api_Segment_api_Segment_at_attr_great_1_rs st a K) := by kernel_rfl
theorem slices_IndexFuncasl_api_Segment_api_Segment_at_attr_great_1_fq : FnQ Try.prog f_slices_IndexFuncasl_api_Segment_api_Segment slices_IndexFuncasl_api_Segment_api_Segment_at_attr_great_1_ps slices_IndexFuncasl_api_Segment_api_Segment_at_attr_great_1_rs (fun x K => slices_IndexFuncasl_api_Segment_api_Segment_at_attr_great_1_q x.1 (fun r0 => K (r0, ()))) := (fnQ_of k_slices_IndexFuncasl_api_Segment_api_Segment_at_attr_great_1 (tab := tab_slices_IndexFuncasl_api_Segment_api_Segment_at_attr_great_1) ⟨⟨ct_attr_great_1_ok, trivial⟩, trivial⟩ rfl).of_eq slices_IndexFuncasl_api_Segment_api_Segment_at_attr_great_1_eq
noncomputable def ct_slices_IndexFuncasl_api_Segment_api_Segment_at_attr_great_1 : Ct := ctRd slices_IndexFuncasl_api_Segment_api_Segment_at_attr_great_1_ps slices_IndexFuncasl_api_Segment_api_Segment_at_attr_great_1_rs (fun x K => slices_IndexFuncasl_api_Segment_api_Segment_at_attr_great_1_q x.1 (fun r0 => K (r0, ())))
theorem ct_slices_IndexFuncasl_api_Segment_api_Segment_at_attr_great_1_ok : SoundCt Try.prog f_slices_IndexFuncasl_api_Segment_api_Segment ct_slices_IndexFuncasl_api_Segment_api_Segment_at_attr_great_1 := ctRd_sound slices_IndexFuncasl_api_Segment_api_Segment_at_attr_great_1_fq
def plan_slices_ContainsFuncasl_api_Segment_api_Segment_at_attr_great_1 : PPlan := ⟨[], [], [], [], [], []⟩
theorem k_slices_ContainsFuncasl_api_Segment_api_Segment_at_attr_great_1 : Known Try.prog f_slices_ContainsFuncasl_api_Segment_api_Segment Try.f37 plan_slices_ContainsFuncasl_api_Segment_api_Segment_at_attr_great_1.plan (bodyOf Try.f37) := ⟨Try.func37, by kernel_rfl, by kernel_rfl, by kernel_rfl, by kernel_rfl, by kernel_rfl⟩
abbrev slices_ContainsFuncasl_api_Segment_api_Segment_at_attr_great_1_ps : List Pk := [Pk.lst [Kd.bool, Kd.lst [Kd.int .u32]], Pk.fn 38]
abbrev slices_ContainsFuncasl_api_Segment_api_Segment_at_attr_great_1_rs : List Pk := [Pk.bool]
def slices_ContainsFuncasl_api_Segment_api_Segment_at_attr_great_1_q (s0 : List (Bool × List UInt32)) (K : Bool → Prop) : Prop :=
 (WfPs slices_IndexFuncasl_api_Segment_api_Segment_at_attr_great_1_ps (s0, (), ()) →
 slices_IndexFuncasl_api_Segment_api_Segment_at_attr_great_1_q s0 (fun x7 =>
 WfPs slices_IndexFuncasl_api_Segment_api_Segment_at_attr_great_1_rs (x7, ()) →
 K (decide ((x7 : Int) ≥ 0))))
noncomputable def tab_slices_ContainsFuncasl_api_Segment_api_Segment_at_attr_great_1 : Tab := ⟨[(f_slices_IndexFuncasl_api_Segment_api_Segment, ctDisp 1 [(f_attr_great_1, ct_slices_IndexFuncasl_api_Segment_api_Segment_at_attr_great_1)])], []⟩
theorem slices_ContainsFuncasl_api_Segment_api_Segment_at_attr_great_1_eq : (fun (x : PkTs slices_ContainsFuncasl_api_Segment_api_Segment_at_attr_great_1_ps) (K : PkTs slices_ContainsFuncasl_api_Segment_api_Segment_at_attr_great_1_rs → Prop) => slices_ContainsFuncasl_api_Segment_api_Segment_at_attr_great_1_q x.1 (fun r0 => K (r0, ()))) = fun x K => PCode Try.prog tab_slices_ContainsFuncasl_api_Segment_api_Segment_at_attr_great_1 plan_slices_ContainsFuncasl_api_Segment_api_Segment_at_attr_great_1 (bodyOf Try.f37) (parS slices_ContainsFuncasl_api_Segment_api_Segment_at_attr_great_1_ps x) (PRet Try.prog Try.f37.results.toList fun a st => outP slices_ContainsFuncasl_api_Segment_api_Segment_at_attr_great_1_rs st a K) := by kernel_rfl
theorem slices_ContainsFuncasl_api_Segment_api_Segment_at_attr_great_1_fq : FnQ Try.prog f_slices_ContainsFuncasl_api_Segment_api_Segment slices_ContainsFuncasl_api_Segment_api_Segment_at_attr_great_1_ps slices_ContainsFuncasl_api_Segment_api_Segment_at_attr_great_1_rs (fun x K => slices_ContainsFuncasl_api_Segment_api_Segment_at_attr_great_1_q x.1 (fun r0 => K (r0, ()))) := (fnQ_of k_slices_ContainsFuncasl_api_Segment_api_Segment_at_attr_great_1 (tab := tab_slices_ContainsFuncasl_api_Segment_api_Segment_at_attr_great_1) ⟨⟨ctDisp_sound ⟨ct_slices_IndexFuncasl_api_Segment_api_Segment_at_attr_great_1_ok, trivial⟩, trivial⟩, trivial⟩ rfl).of_eq slices_ContainsFuncasl_api_Segment_api_Segment_at_attr_great_1_eq
noncomputable def ct_slices_ContainsFuncasl_api_Segment_api_Segment_at_attr_great_1 : Ct := ctRd slices_ContainsFuncasl_api_Segment_api_Segment_at_attr_great_1_ps slices_ContainsFuncasl_api_Segment_api_Segment_at_attr_great_1_rs (fun x K => slices_ContainsFuncasl_api_Segment_api_Segment_at_attr_great_1_q x.1 (fun r0 => K (r0, ())))
theorem ct_slices_ContainsFuncasl_api_Segment_api_Segment_at_attr_great_1_ok : SoundCt Try.prog f_slices_ContainsFuncasl_api_Segment_api_Segment ct_slices_ContainsFuncasl_api_Segment_api_Segment_at_attr_great_1 := ctRd_sound slices_ContainsFuncasl_api_Segment_api_Segment_at_attr_great_1_fq
def plan_attr_great : PPlan := ⟨[], [], [], [], [], []⟩
theorem k_attr_great : Known Try.prog f_attr_great Try.f29 plan_attr_great.plan (bodyOf Try.f29) := ⟨Try.func29, by kernel_rfl, by kernel_rfl, by kernel_rfl, by kernel_rfl, by kernel_rfl⟩
abbrev attr_great_ps : List Pk := [Pk.lst [Kd.bool, Kd.lst [Kd.int .u32]]]
abbrev attr_great_rs : List Pk := [Pk.bool]
def attr_great_q (p0 : List (Bool × List UInt32)) (K : Bool → Prop) : Prop :=
 (WfPs slices_ContainsFuncasl_api_Segment_api_Segment_at_attr_great_1_ps (p0, (), ()) →
 slices_ContainsFuncasl_api_Segment_api_Segment_at_attr_great_1_q p0 (fun x4 =>
 WfPs slices_ContainsFuncasl_api_Segment_api_Segment_at_attr_great_1_rs (x4, ()) →
 K x4))
noncomputable def tab_attr_great : Tab := ⟨[(f_slices_ContainsFuncasl_api_Segment_api_Segment, ctDisp 1 [(f_attr_great_1, ct_slices_ContainsFuncasl_api_Segment_api_Segment_at_attr_great_1)])], []⟩
theorem attr_great_eq : (fun (x : PkTs attr_great_ps) (K : PkTs attr_great_rs → Prop) => attr_great_q x.1 (fun r0 => K (r0, ()))) = fun x K => PCode Try.prog tab_attr_great plan_attr_great (bodyOf Try.f29) (parS attr_great_ps x) (PRet Try.prog Try.f29.results.toList fun a st => outP attr_great_rs st a K) := by kernel_rfl
theorem attr_great_fq : FnQ Try.prog f_attr_great attr_great_ps attr_great_rs (fun x K => attr_great_q x.1 (fun r0 => K (r0, ()))) := (fnQ_of k_attr_great (tab := tab_attr_great) ⟨⟨ctDisp_sound ⟨ct_slices_ContainsFuncasl_api_Segment_api_Segment_at_attr_great_1_ok, trivial⟩, trivial⟩, trivial⟩ rfl).of_eq attr_great_eq
noncomputable def ct_attr_great : Ct := ctRd attr_great_ps attr_great_rs (fun x K => attr_great_q x.1 (fun r0 => K (r0, ())))
theorem ct_attr_great_ok : SoundCt Try.prog f_attr_great ct_attr_great := ctRd_sound attr_great_fq
def pl_attr_Put_16 : PLoop := ⟨[(87, PK.int .i64)], [7, 85, 86], [(7, [PK.row T_uint8 [Kd.int .u8]])]⟩
def plan_attr_Put : PPlan := ⟨[(14, [0, 1, 2, 4, 5, 3, 6, 7, 8], [80])], [(16, pl_attr_Put_16)], [], [], [], []⟩
theorem k_attr_Put : Known Try.prog f_attr_Put Try.f20 plan_attr_Put.plan (bodyOf Try.f20) := ⟨Try.func20, by kernel_rfl, by kernel_rfl, by kernel_rfl, by kernel_rfl, by kernel_rfl⟩
abbrev attr_Put_ps : List Pk := [Pk.agg [Kd.int .i64, Kd.lst [Kd.bool, Kd.lst [Kd.int .u32]], Kd.int .u32, Kd.bool, Kd.int .u32, Kd.bool, Kd.int .u32, Kd.bool, Kd.bool, Kd.int .u32, Kd.int .u32, Kd.lst [Kd.int .u32], Kd.lst [Kd.int .i64, Kd.lst [Kd.int .u8]]], Pk.bool]
abbrev attr_Put_rs : List Pk := [Pk.own T_uint8 [Kd.int .u8], Pk.int .i64]
def attr_Put_l16 (a0 : Int × List (Bool × List UInt32) × UInt32 × Bool × UInt32 × Bool × UInt32 × Bool × Bool × UInt32 × UInt32 × List UInt32 × List (Int × List UInt8)) (x87 : Int) (c0 : List UInt8) (next16 : (Int × List UInt8 × Unit) → Prop) (K : List UInt8 → Int → Prop) : Prop :=
 IfB (decide ((x87 : Int) < (a0.2.2.2.2.2.2.2.2.2.2.2.2.length : Int)))
 ((0 : Int) ≤ x87 ∧ AtN a0.2.2.2.2.2.2.2.2.2.2.2.2 x87.toNat fun x89 =>
 WfT ks_int_i64_lst_int_u8 x89 →
 (WfY attr_writer_put_os (c0, ()) →
 WfPs attr_writer_put_ps ((224 : Int), x89.1, ([x89.2] : List (List UInt8)), ()) →
 attr_writer_put_q c0 (224 : Int) x89.1 ([x89.2] : List (List UInt8)) (fun ox970 =>
 WfY attr_writer_put_os (ox970, ()) →
 WfPs attr_writer_put_rs () →
 next16 ((IntKind.wrap .i64 (x87 + 1)), ox970, ()))))
 (K c0 0)
def attr_Put_j4 (j13 : List UInt8) (a0 : Int × List (Bool × List UInt32) × UInt32 × Bool × UInt32 × Bool × UInt32 × Bool × Bool × UInt32 × UInt32 × List UInt32 × List (Int × List UInt8)) (K : List UInt8 → Int → Prop) : Prop :=
 LoopJ (Int × List UInt8 × Unit) ((0 : Int), j13, ()) fun y next =>
 WfY pl_attr_Put_16.kinds y →
 attr_Put_l16 a0 y.1 y.2.1 next K
def attr_Put_j3 (a0 : Int × List (Bool × List UInt32) × UInt32 × Bool × UInt32 × Bool × UInt32 × Bool × Bool × UInt32 × UInt32 × List UInt32 × List (Int × List UInt8)) (j13 : List UInt8) (K : List UInt8 → Int → Prop) : Prop :=
 attr_Put_j4 j13 a0 K
def attr_Put_j2 (a0 : Int × List (Bool × List UInt32) × UInt32 × Bool × UInt32 × Bool × UInt32 × Bool × Bool × UInt32 × UInt32 × List UInt32 × List (Int × List UInt8)) (j14 : List UInt8) (j14_1 : Bool) (K : List UInt8 → Int → Prop) : Prop :=
 IfB j14_1
 ((WfPs attr_num_ps ((a0.2.2.2.2.2.2.2.2.2.1.toNat : Int), ()) →
 attr_num_q (a0.2.2.2.2.2.2.2.2.2.1.toNat : Int) (fun x78 =>
 WfPs attr_num_rs (x78, ()) →
 (WfPs attr_num_ps ((a0.2.2.2.2.2.2.2.2.2.2.1.toNat : Int), ()) →
 attr_num_q (a0.2.2.2.2.2.2.2.2.2.2.1.toNat : Int) (fun x81 =>
 WfPs attr_num_rs (x81, ()) →
 (WfY attr_writer_usual_os (j14, ()) →
 WfPs attr_writer_usual_ps ((18 : Int), ([x78, x81] : List (List UInt8)), ()) →
 attr_writer_usual_q j14 (18 : Int) ([x78, x81] : List (List UInt8)) (fun ox830 =>
 WfY attr_writer_usual_os (ox830, ()) →
 WfPs attr_writer_usual_rs () →
 attr_Put_j3 a0 ox830 K)))))))
 (attr_Put_j3 a0 j14 K)
def attr_Put_j1 (four1 : Bool) (a0 : Int × List (Bool × List UInt32) × UInt32 × Bool × UInt32 × Bool × UInt32 × Bool × Bool × UInt32 × UInt32 × List UInt32 × List (Int × List UInt8)) (j14 : List UInt8) (K : List UInt8 → Int → Prop) : Prop :=
 IfB (!four1)
 (IfB a0.2.2.2.2.2.2.2.2.1
 (attr_Put_j2 a0 j14 (decide (((a0.2.2.2.2.2.2.2.2.2.1.toNat : Int) : Int) > 65535)) K)
 (attr_Put_j2 a0 j14 false K))
 (attr_Put_j2 a0 j14 false K)
def attr_Put_j0 (four1 : Bool) (a0 : Int × List (Bool × List UInt32) × UInt32 × Bool × UInt32 × Bool × UInt32 × Bool × Bool × UInt32 × UInt32 × List UInt32 × List (Int × List UInt8)) (ox460 : List UInt8) (j15 : Bool) (K : List UInt8 → Int → Prop) : Prop :=
 IfB j15
 ((WfPs path_Put_ps (a0.2.1, true, ()) →
 path_Put_q a0.2.1 true (fun x57r0 x57r1 =>
 WfPs path_Put_rs (x57r0, x57r1, ()) →
 (WfY attr_writer_usual_os (ox460, ()) →
 WfPs attr_writer_usual_ps ((17 : Int), ([x57r0] : List (List UInt8)), ()) →
 attr_writer_usual_q ox460 (17 : Int) ([x57r0] : List (List UInt8)) (fun ox630 =>
 WfY attr_writer_usual_os (ox630, ()) →
 WfPs attr_writer_usual_rs () →
 attr_Put_j1 four1 a0 ox630 K)))))
 (attr_Put_j1 four1 a0 ox460 K)
def attr_Put_q (a0 : Int × List (Bool × List UInt32) × UInt32 × Bool × UInt32 × Bool × UInt32 × Bool × Bool × UInt32 × UInt32 × List UInt32 × List (Int × List UInt8)) (four1 : Bool) (K : List UInt8 → Int → Prop) : Prop :=
 (WfPs attr_Check_ps (((a0.1, a0.2.1, (ofI .u32 (a0.2.2.1.toNat : Int)), a0.2.2.2.1, (ofI .u32 (a0.2.2.2.2.1.toNat : Int)), a0.2.2.2.2.2.1, (ofI .u32 (a0.2.2.2.2.2.2.1.toNat : Int)), a0.2.2.2.2.2.2.2.1, a0.2.2.2.2.2.2.2.2.1, (ofI .u32 (a0.2.2.2.2.2.2.2.2.2.1.toNat : Int)), (ofI .u32 (a0.2.2.2.2.2.2.2.2.2.2.1.toNat : Int)), a0.2.2.2.2.2.2.2.2.2.2.2.1, a0.2.2.2.2.2.2.2.2.2.2.2.2) : Int × List (Bool × List UInt32) × UInt32 × Bool × UInt32 × Bool × UInt32 × Bool × Bool × UInt32 × UInt32 × List UInt32 × List (Int × List UInt8)), ()) →
 attr_Check_q ((a0.1, a0.2.1, (ofI .u32 (a0.2.2.1.toNat : Int)), a0.2.2.2.1, (ofI .u32 (a0.2.2.2.2.1.toNat : Int)), a0.2.2.2.2.2.1, (ofI .u32 (a0.2.2.2.2.2.2.1.toNat : Int)), a0.2.2.2.2.2.2.2.1, a0.2.2.2.2.2.2.2.2.1, (ofI .u32 (a0.2.2.2.2.2.2.2.2.2.1.toNat : Int)), (ofI .u32 (a0.2.2.2.2.2.2.2.2.2.2.1.toNat : Int)), a0.2.2.2.2.2.2.2.2.2.2.2.1, a0.2.2.2.2.2.2.2.2.2.2.2.2) : Int × List (Bool × List UInt32) × UInt32 × Bool × UInt32 × Bool × UInt32 × Bool × Bool × UInt32 × UInt32 × List UInt32 × List (Int × List UInt8)) (fun x13 =>
 WfPs attr_Check_rs (x13, ()) →
 IfB ((x13 : Int) != 0)
 (K ([] : List UInt8) x13)
 ((WfPs path_Put_ps (a0.2.1, four1, ()) →
 path_Put_q a0.2.1 four1 (fun x23r0 x23r1 =>
 WfPs path_Put_rs (x23r0, x23r1, ()) →
 (WfY attr_writer_usual_os (([] : List UInt8), ()) →
 WfPs attr_writer_usual_ps ((1 : Int), ([([(ofI .u8 (IntKind.wrap .u8 a0.1))] : List UInt8)] : List (List UInt8)), ()) →
 attr_writer_usual_q ([] : List UInt8) (1 : Int) ([([(ofI .u8 (IntKind.wrap .u8 a0.1))] : List UInt8)] : List (List UInt8)) (fun ox320 =>
 WfY attr_writer_usual_os (ox320, ()) →
 WfPs attr_writer_usual_rs () →
 (WfY attr_writer_usual_os (ox320, ()) →
 WfPs attr_writer_usual_ps ((2 : Int), ([x23r0] : List (List UInt8)), ()) →
 attr_writer_usual_q ox320 (2 : Int) ([x23r0] : List (List UInt8)) (fun ox360 =>
 WfY attr_writer_usual_os (ox360, ()) →
 WfPs attr_writer_usual_rs () →
 (WfPs attr_num_ps ((a0.2.2.1.toNat : Int), ()) →
 attr_num_q (a0.2.2.1.toNat : Int) (fun x40 =>
 WfPs attr_num_rs (x40, ()) →
 (WfY attr_writer_usual_os (ox360, ()) →
 WfPs attr_writer_usual_ps ((3 : Int), ([x40] : List (List UInt8)), ()) →
 attr_writer_usual_q ox360 (3 : Int) ([x40] : List (List UInt8)) (fun ox420 =>
 WfY attr_writer_usual_os (ox420, ()) →
 WfPs attr_writer_usual_rs () →
 (WfY attr_writer_perhaps_os (ox420, ()) →
 WfPs attr_writer_perhaps_ps (((a0.1, a0.2.1, (ofI .u32 (a0.2.2.1.toNat : Int)), a0.2.2.2.1, (ofI .u32 (a0.2.2.2.2.1.toNat : Int)), a0.2.2.2.2.2.1, (ofI .u32 (a0.2.2.2.2.2.2.1.toNat : Int)), a0.2.2.2.2.2.2.2.1, a0.2.2.2.2.2.2.2.2.1, (ofI .u32 (a0.2.2.2.2.2.2.2.2.2.1.toNat : Int)), (ofI .u32 (a0.2.2.2.2.2.2.2.2.2.2.1.toNat : Int)), a0.2.2.2.2.2.2.2.2.2.2.2.1, a0.2.2.2.2.2.2.2.2.2.2.2.2) : Int × List (Bool × List UInt32) × UInt32 × Bool × UInt32 × Bool × UInt32 × Bool × Bool × UInt32 × UInt32 × List UInt32 × List (Int × List UInt8)), four1, ()) →
 attr_writer_perhaps_q ox420 ((a0.1, a0.2.1, (ofI .u32 (a0.2.2.1.toNat : Int)), a0.2.2.2.1, (ofI .u32 (a0.2.2.2.2.1.toNat : Int)), a0.2.2.2.2.2.1, (ofI .u32 (a0.2.2.2.2.2.2.1.toNat : Int)), a0.2.2.2.2.2.2.2.1, a0.2.2.2.2.2.2.2.2.1, (ofI .u32 (a0.2.2.2.2.2.2.2.2.2.1.toNat : Int)), (ofI .u32 (a0.2.2.2.2.2.2.2.2.2.2.1.toNat : Int)), a0.2.2.2.2.2.2.2.2.2.2.2.1, a0.2.2.2.2.2.2.2.2.2.2.2.2) : Int × List (Bool × List UInt32) × UInt32 × Bool × UInt32 × Bool × UInt32 × Bool × Bool × UInt32 × UInt32 × List UInt32 × List (Int × List UInt8)) four1 (fun ox460 =>
 WfY attr_writer_perhaps_os (ox460, ()) →
 WfPs attr_writer_perhaps_rs () →
 IfB (!four1)
 ((WfPs attr_great_ps (a0.2.1, ()) →
 attr_great_q a0.2.1 (fun x52 =>
 WfPs attr_great_rs (x52, ()) →
 attr_Put_j0 four1 a0 ox460 x52 K)))
 (attr_Put_j0 four1 a0 ox460 false K))))))))))))))))
noncomputable def tab_attr_Put : Tab := ⟨[(f_attr_Check, ct_attr_Check), (f_path_Put, ct_path_Put), (f_attr_writer_usual, ct_attr_writer_usual), (f_attr_num, ct_attr_num), (f_attr_writer_perhaps, ct_attr_writer_perhaps), (f_attr_great, ct_attr_great), (f_attr_writer_put, ct_attr_writer_put)], []⟩
theorem attr_Put_eq : (fun (x : PkTs attr_Put_ps) (K : PkTs attr_Put_rs → Prop) => attr_Put_q x.1 x.2.1 (fun r0 r1 => K (r0, r1, ()))) = fun x K => PCode Try.prog tab_attr_Put plan_attr_Put (bodyOf Try.f20) (parS attr_Put_ps x) (PRet Try.prog Try.f20.results.toList fun a st => outP attr_Put_rs st a K) := by kernel_rfl
theorem attr_Put_fq : FnQ Try.prog f_attr_Put attr_Put_ps attr_Put_rs (fun x K => attr_Put_q x.1 x.2.1 (fun r0 r1 => K (r0, r1, ()))) := (fnQ_of k_attr_Put (tab := tab_attr_Put) ⟨⟨ct_attr_Check_ok, ct_path_Put_ok, ct_attr_writer_usual_ok, ct_attr_num_ok, ct_attr_writer_perhaps_ok, ct_attr_great_ok, ct_attr_writer_put_ok, trivial⟩, trivial⟩ rfl).of_eq attr_Put_eq
noncomputable def ct_attr_Put : Ct := ctVal attr_Put_ps attr_Put_rs (fun x K => attr_Put_q x.1 x.2.1 (fun r0 r1 => K (r0, r1, ())))
theorem ct_attr_Put_ok : SoundCt Try.prog f_attr_Put ct_attr_Put := ctVal_sound attr_Put_fq
def plan_base_SameBytes : PPlan := ⟨[], [], [], [], [], []⟩
theorem k_base_SameBytes : Known Try.prog f_base_SameBytes Try.f21 plan_base_SameBytes.plan (bodyOf Try.f21) := ⟨Try.func21, by kernel_rfl, by kernel_rfl, by kernel_rfl, by kernel_rfl, by kernel_rfl⟩
abbrev base_SameBytes_ps : List Pk := [Pk.lst [Kd.int .u8], Pk.lst [Kd.int .u8]]
abbrev base_SameBytes_rs : List Pk := [Pk.bool]
def base_SameBytes_q (a0 : List UInt8) (b1 : List UInt8) (K : Bool → Prop) : Prop :=
 K (a0 == b1)
noncomputable def tab_base_SameBytes : Tab := ⟨[], []⟩
theorem base_SameBytes_eq : (fun (x : PkTs base_SameBytes_ps) (K : PkTs base_SameBytes_rs → Prop) => base_SameBytes_q x.1 x.2.1 (fun r0 => K (r0, ()))) = fun x K => PCode Try.prog tab_base_SameBytes plan_base_SameBytes (bodyOf Try.f21) (parS base_SameBytes_ps x) (PRet Try.prog Try.f21.results.toList fun a st => outP base_SameBytes_rs st a K) := by kernel_rfl
theorem base_SameBytes_fq : FnQ Try.prog f_base_SameBytes base_SameBytes_ps base_SameBytes_rs (fun x K => base_SameBytes_q x.1 x.2.1 (fun r0 => K (r0, ()))) := (fnQ_of k_base_SameBytes (tab := tab_base_SameBytes) ⟨trivial, trivial⟩ rfl).of_eq base_SameBytes_eq
noncomputable def ct_base_SameBytes : Ct := ctRd base_SameBytes_ps base_SameBytes_rs (fun x K => base_SameBytes_q x.1 x.2.1 (fun r0 => K (r0, ())))
theorem ct_base_SameBytes_ok : SoundCt Try.prog f_base_SameBytes ct_base_SameBytes := ctRd_sound base_SameBytes_fq
def plan_law20_works : PPlan := ⟨[], [], [], [], [], []⟩
theorem k_law20_works : Known Try.prog f_law20_works Try.f8 plan_law20_works.plan (bodyOf Try.f8) := ⟨Try.func8, by kernel_rfl, by kernel_rfl, by kernel_rfl, by kernel_rfl, by kernel_rfl⟩
abbrev law20_works_ps : List Pk := []
abbrev law20_works_rs : List Pk := [Pk.bool]
def law20_works_q  (K : Bool → Prop) : Prop :=
 (WfPs attr_Put_ps (((0, ([(false, ([(ofI .u32 65001)] : List UInt32))] : List (Bool × List UInt32)), (ofI .u32 167772161), false, (ofI .u32 0), false, (ofI .u32 0), false, false, (ofI .u32 0), (ofI .u32 0), ([] : List UInt32), ([] : List (Int × List UInt8))) : Int × List (Bool × List UInt32) × UInt32 × Bool × UInt32 × Bool × UInt32 × Bool × Bool × UInt32 × UInt32 × List UInt32 × List (Int × List UInt8)), false, ()) →
 attr_Put_q ((0, ([(false, ([(ofI .u32 65001)] : List UInt32))] : List (Bool × List UInt32)), (ofI .u32 167772161), false, (ofI .u32 0), false, (ofI .u32 0), false, false, (ofI .u32 0), (ofI .u32 0), ([] : List UInt32), ([] : List (Int × List UInt8))) : Int × List (Bool × List UInt32) × UInt32 × Bool × UInt32 × Bool × UInt32 × Bool × Bool × UInt32 × UInt32 × List UInt32 × List (Int × List UInt8)) false (fun x8r0 x8r1 =>
 WfPs attr_Put_rs (x8r0, x8r1, ()) →
 IfB ((x8r1 : Int) == 0)
 ((WfPs base_SameBytes_ps (x8r0, ([(ofI .u8 64), (ofI .u8 1), (ofI .u8 1), (ofI .u8 0), (ofI .u8 64), (ofI .u8 2), (ofI .u8 4), (ofI .u8 2), (ofI .u8 1), (ofI .u8 253), (ofI .u8 233), (ofI .u8 64), (ofI .u8 3), (ofI .u8 4), (ofI .u8 10), (ofI .u8 0), (ofI .u8 0), (ofI .u8 1)] : List UInt8), ()) →
 base_SameBytes_q x8r0 ([(ofI .u8 64), (ofI .u8 1), (ofI .u8 1), (ofI .u8 0), (ofI .u8 64), (ofI .u8 2), (ofI .u8 4), (ofI .u8 2), (ofI .u8 1), (ofI .u8 253), (ofI .u8 233), (ofI .u8 64), (ofI .u8 3), (ofI .u8 4), (ofI .u8 10), (ofI .u8 0), (ofI .u8 0), (ofI .u8 1)] : List UInt8) (fun x16 =>
 WfPs base_SameBytes_rs (x16, ()) →
 K x16)))
 (K false)))
noncomputable def tab_law20_works : Tab := ⟨[(f_attr_Put, ct_attr_Put), (f_base_SameBytes, ct_base_SameBytes)], []⟩
theorem law20_works_eq : (fun (x : PkTs law20_works_ps) (K : PkTs law20_works_rs → Prop) => law20_works_q  (fun r0 => K (r0, ()))) = fun x K => PCode Try.prog tab_law20_works plan_law20_works (bodyOf Try.f8) (parS law20_works_ps x) (PRet Try.prog Try.f8.results.toList fun a st => outP law20_works_rs st a K) := by kernel_rfl
theorem law20_works_fq : FnQ Try.prog f_law20_works law20_works_ps law20_works_rs (fun x K => law20_works_q  (fun r0 => K (r0, ()))) := (fnQ_of k_law20_works (tab := tab_law20_works) ⟨⟨ct_attr_Put_ok, ct_base_SameBytes_ok, trivial⟩, trivial⟩ rfl).of_eq law20_works_eq
noncomputable def ct_law20_works : Ct := ctRd law20_works_ps law20_works_rs (fun x K => law20_works_q  (fun r0 => K (r0, ())))
theorem ct_law20_works_ok : SoundCt Try.prog f_law20_works ct_law20_works := ctRd_sound law20_works_fq
end Go.Proofs.Ytomdgakmkihfhaa
