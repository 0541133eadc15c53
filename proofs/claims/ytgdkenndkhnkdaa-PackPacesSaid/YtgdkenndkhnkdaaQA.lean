/-
  SOME FUNCTIONS OVER PLAIN DATA: printed by a program of ours over this translation.
-/
import Derived.Test.YtgdkenndkhnkdaaNum
set_option maxRecDepth 100000
set_option maxHeartbeats 4000000
set_option linter.unusedVariables false
namespace Go.Proofs.Ytgdkenndkhnkdaa
open Go.Sh
abbrev ks_int_u8 : List Kd := [Kd.int .u8]
abbrev ks_int_u32 : List Kd := [Kd.int .u32]
abbrev ks_bool_lst_int_u32 : List Kd := [Kd.bool, Kd.lst [Kd.int .u32]]
abbrev ks_int_i64_lst_int_u8 : List Kd := [Kd.int .i64, Kd.lst [Kd.int .u8]]
def plan_pack_size : PPlan := ⟨[], [], [], [], [], []⟩
theorem k_pack_size : Known Try.prog f_pack_size Try.f37 plan_pack_size.plan (bodyOf Try.f37) := by refine ⟨Try.func37, ?_, ?_, ?_, ?_, ?_⟩ <;> kernel_rfl
abbrev pack_size_ps : List Pk := [Pk.agg [Kd.int .u32, Kd.int .i64]]
abbrev pack_size_rs : List Pk := [Pk.int .i64]
def pack_size_q (p0 : UInt32 × Int) (K : Int → Prop) : Prop :=
 (8 : Int) ≠ 0 ∧
 K (IntKind.wrap .i64 (1 + (IntKind.wrap .i64 (Int.tdiv (IntKind.wrap .i64 (p0.2 + 7)) 8))))
noncomputable def tab_pack_size : Tab := ⟨[], []⟩
abbrev pack_size_L (x : PkTs pack_size_ps) (K : PkTs pack_size_rs → Prop) : Prop := pack_size_q x.1 (fun r0 => K (r0, ()))
theorem pack_size_eq : pack_size_L = fun x K => PCode Try.prog tab_pack_size plan_pack_size (bodyOf Try.f37) (parS pack_size_ps x) (PRet Try.prog Try.f37.results.toList fun a st => outP pack_size_rs st a K) := by kernel_rfl
theorem pack_size_fq : FnQ Try.prog f_pack_size pack_size_ps pack_size_rs pack_size_L := (fnQ_of k_pack_size (tab := tab_pack_size) ⟨trivial, trivial⟩ rfl).of_eq pack_size_eq
def pl_slices_Equalasl_byte_byte_4 : PLoop := ⟨[(13, PK.int .i64)], [0, 1, 12], []⟩
def plan_slices_Equalasl_byte_byte : PPlan := ⟨[], [(4, pl_slices_Equalasl_byte_byte_4)], [], [], [], []⟩
theorem k_slices_Equalasl_byte_byte : Known Try.prog f_slices_Equalasl_byte_byte Try.f66 plan_slices_Equalasl_byte_byte.plan (bodyOf Try.f66) := by refine ⟨Try.func66, ?_, ?_, ?_, ?_, ?_⟩ <;> kernel_rfl
abbrev slices_Equalasl_byte_byte_ps : List Pk := [Pk.lst [Kd.int .u8], Pk.lst [Kd.int .u8]]
abbrev slices_Equalasl_byte_byte_rs : List Pk := [Pk.bool]
def slices_Equalasl_byte_byte_l4 (s10 : List UInt8) (s21 : List UInt8) (x13 : Int) (next4 : (Int × Unit) → Prop) (K : Bool → Prop) : Prop :=
 IfB (decide ((x13 : Int) < (s10.length : Int)))
 ((0 : Int) ≤ x13 ∧ AtN s10 x13.toNat fun x18 =>
 WfT ks_int_u8 x18 →
 (0 : Int) ≤ x13 ∧ AtN s21 x13.toNat fun x22 =>
 WfT ks_int_u8 x22 →
 IfB (((x18.toNat : Int) : Int) != (x22.toNat : Int))
 (K false)
 (next4 ((IntKind.wrap .i64 (x13 + 1)), ())))
 (K true)
def slices_Equalasl_byte_byte_q (s10 : List UInt8) (s21 : List UInt8) (K : Bool → Prop) : Prop :=
 IfB (((s10.length : Int) : Int) != (s21.length : Int))
 (K false)
 (LoopJ (Int × Unit) ((0 : Int), ()) fun y next =>
 WfY pl_slices_Equalasl_byte_byte_4.kinds y →
 slices_Equalasl_byte_byte_l4 s10 s21 y.1 next K)
noncomputable def tab_slices_Equalasl_byte_byte : Tab := ⟨[], []⟩
abbrev slices_Equalasl_byte_byte_L (x : PkTs slices_Equalasl_byte_byte_ps) (K : PkTs slices_Equalasl_byte_byte_rs → Prop) : Prop := slices_Equalasl_byte_byte_q x.1 x.2.1 (fun r0 => K (r0, ()))
theorem slices_Equalasl_byte_byte_eq : slices_Equalasl_byte_byte_L = fun x K => PCode Try.prog tab_slices_Equalasl_byte_byte plan_slices_Equalasl_byte_byte (bodyOf Try.f66) (parS slices_Equalasl_byte_byte_ps x) (PRet Try.prog Try.f66.results.toList fun a st => outP slices_Equalasl_byte_byte_rs st a K) := by kernel_rfl
theorem slices_Equalasl_byte_byte_fq : FnQ Try.prog f_slices_Equalasl_byte_byte slices_Equalasl_byte_byte_ps slices_Equalasl_byte_byte_rs slices_Equalasl_byte_byte_L := (fnQ_of k_slices_Equalasl_byte_byte (tab := tab_slices_Equalasl_byte_byte) ⟨trivial, trivial⟩ rfl).of_eq slices_Equalasl_byte_byte_eq
noncomputable def ct_slices_Equalasl_byte_byte : Ct := ctRd slices_Equalasl_byte_byte_ps slices_Equalasl_byte_byte_rs slices_Equalasl_byte_byte_L
theorem ct_slices_Equalasl_byte_byte_ok : SoundCt Try.prog f_slices_Equalasl_byte_byte ct_slices_Equalasl_byte_byte := ctRd_sound slices_Equalasl_byte_byte_fq
def plan_attr_Same_1 : PPlan := ⟨[], [], [], [], [], []⟩
theorem k_attr_Same_1 : Known Try.prog f_attr_Same_1 Try.f65 plan_attr_Same_1.plan (bodyOf Try.f65) := by refine ⟨Try.func65, ?_, ?_, ?_, ?_, ?_⟩ <;> kernel_rfl
abbrev attr_Same_1_ps : List Pk := [Pk.agg [Kd.int .i64, Kd.lst [Kd.int .u8]], Pk.agg [Kd.int .i64, Kd.lst [Kd.int .u8]]]
abbrev attr_Same_1_rs : List Pk := [Pk.bool]
def attr_Same_1_q (x0 : Int × List UInt8) (y1 : Int × List UInt8) (K : Bool → Prop) : Prop :=
 IfB ((x0.1 : Int) == y1.1)
 ((WfPs slices_Equalasl_byte_byte_ps (x0.2, y1.2, ()) →
 slices_Equalasl_byte_byte_q x0.2 y1.2 (fun x15 =>
 WfPs slices_Equalasl_byte_byte_rs (x15, ()) →
 K x15)))
 (K false)
noncomputable def tab_attr_Same_1 : Tab := ⟨[(f_slices_Equalasl_byte_byte, ct_slices_Equalasl_byte_byte)], []⟩
abbrev attr_Same_1_L (x : PkTs attr_Same_1_ps) (K : PkTs attr_Same_1_rs → Prop) : Prop := attr_Same_1_q x.1 x.2.1 (fun r0 => K (r0, ()))
theorem attr_Same_1_eq : attr_Same_1_L = fun x K => PCode Try.prog tab_attr_Same_1 plan_attr_Same_1 (bodyOf Try.f65) (parS attr_Same_1_ps x) (PRet Try.prog Try.f65.results.toList fun a st => outP attr_Same_1_rs st a K) := by kernel_rfl
theorem attr_Same_1_fq : FnQ Try.prog f_attr_Same_1 attr_Same_1_ps attr_Same_1_rs attr_Same_1_L := (fnQ_of k_attr_Same_1 (tab := tab_attr_Same_1) ⟨⟨ct_slices_Equalasl_byte_byte_ok, trivial⟩, trivial⟩ rfl).of_eq attr_Same_1_eq
noncomputable def ct_attr_Same_1 : Ct := ctRd attr_Same_1_ps attr_Same_1_rs attr_Same_1_L
theorem ct_attr_Same_1_ok : SoundCt Try.prog f_attr_Same_1 ct_attr_Same_1 := ctRd_sound attr_Same_1_fq
def plan_attr_perhaps : PPlan := ⟨[], [], [], [], [], []⟩
theorem k_attr_perhaps : Known Try.prog f_attr_perhaps Try.f67 plan_attr_perhaps.plan (bodyOf Try.f67) := by refine ⟨Try.func67, ?_, ?_, ?_, ?_, ?_⟩ <;> kernel_rfl
abbrev attr_perhaps_ps : List Pk := [Pk.bool, Pk.bool, Pk.bool]
abbrev attr_perhaps_rs : List Pk := [Pk.bool]
def attr_perhaps_q (is0 : Bool) (was1 : Bool) (same2 : Bool) (K : Bool → Prop) : Prop :=
 IfB (is0 == was1)
 (IfB (!is0)
 (K true)
 (K same2))
 (K false)
noncomputable def tab_attr_perhaps : Tab := ⟨[], []⟩
abbrev attr_perhaps_L (x : PkTs attr_perhaps_ps) (K : PkTs attr_perhaps_rs → Prop) : Prop := attr_perhaps_q x.1 x.2.1 x.2.2.1 (fun r0 => K (r0, ()))
theorem attr_perhaps_eq : attr_perhaps_L = fun x K => PCode Try.prog tab_attr_perhaps plan_attr_perhaps (bodyOf Try.f67) (parS attr_perhaps_ps x) (PRet Try.prog Try.f67.results.toList fun a st => outP attr_perhaps_rs st a K) := by kernel_rfl
theorem attr_perhaps_fq : FnQ Try.prog f_attr_perhaps attr_perhaps_ps attr_perhaps_rs attr_perhaps_L := (fnQ_of k_attr_perhaps (tab := tab_attr_perhaps) ⟨trivial, trivial⟩ rfl).of_eq attr_perhaps_eq
noncomputable def ct_attr_perhaps : Ct := ctRd attr_perhaps_ps attr_perhaps_rs attr_perhaps_L
theorem ct_attr_perhaps_ok : SoundCt Try.prog f_attr_perhaps ct_attr_perhaps := ctRd_sound attr_perhaps_fq
def pl_slices_Equalasl_uint32_uint32_4 : PLoop := ⟨[(13, PK.int .i64)], [0, 1, 12], []⟩
def plan_slices_Equalasl_uint32_uint32 : PPlan := ⟨[], [(4, pl_slices_Equalasl_uint32_uint32_4)], [], [], [], []⟩
theorem k_slices_Equalasl_uint32_uint32 : Known Try.prog f_slices_Equalasl_uint32_uint32 Try.f69 plan_slices_Equalasl_uint32_uint32.plan (bodyOf Try.f69) := by refine ⟨Try.func69, ?_, ?_, ?_, ?_, ?_⟩ <;> kernel_rfl
abbrev slices_Equalasl_uint32_uint32_ps : List Pk := [Pk.lst [Kd.int .u32], Pk.lst [Kd.int .u32]]
abbrev slices_Equalasl_uint32_uint32_rs : List Pk := [Pk.bool]
def slices_Equalasl_uint32_uint32_l4 (s10 : List UInt32) (s21 : List UInt32) (x13 : Int) (next4 : (Int × Unit) → Prop) (K : Bool → Prop) : Prop :=
 IfB (decide ((x13 : Int) < (s10.length : Int)))
 ((0 : Int) ≤ x13 ∧ AtN s10 x13.toNat fun x18 =>
 WfT ks_int_u32 x18 →
 (0 : Int) ≤ x13 ∧ AtN s21 x13.toNat fun x22 =>
 WfT ks_int_u32 x22 →
 IfB (((x18.toNat : Int) : Int) != (x22.toNat : Int))
 (K false)
 (next4 ((IntKind.wrap .i64 (x13 + 1)), ())))
 (K true)
def slices_Equalasl_uint32_uint32_q (s10 : List UInt32) (s21 : List UInt32) (K : Bool → Prop) : Prop :=
 IfB (((s10.length : Int) : Int) != (s21.length : Int))
 (K false)
 (LoopJ (Int × Unit) ((0 : Int), ()) fun y next =>
 WfY pl_slices_Equalasl_uint32_uint32_4.kinds y →
 slices_Equalasl_uint32_uint32_l4 s10 s21 y.1 next K)
noncomputable def tab_slices_Equalasl_uint32_uint32 : Tab := ⟨[], []⟩
abbrev slices_Equalasl_uint32_uint32_L (x : PkTs slices_Equalasl_uint32_uint32_ps) (K : PkTs slices_Equalasl_uint32_uint32_rs → Prop) : Prop := slices_Equalasl_uint32_uint32_q x.1 x.2.1 (fun r0 => K (r0, ()))
theorem slices_Equalasl_uint32_uint32_eq : slices_Equalasl_uint32_uint32_L = fun x K => PCode Try.prog tab_slices_Equalasl_uint32_uint32 plan_slices_Equalasl_uint32_uint32 (bodyOf Try.f69) (parS slices_Equalasl_uint32_uint32_ps x) (PRet Try.prog Try.f69.results.toList fun a st => outP slices_Equalasl_uint32_uint32_rs st a K) := by kernel_rfl
theorem slices_Equalasl_uint32_uint32_fq : FnQ Try.prog f_slices_Equalasl_uint32_uint32 slices_Equalasl_uint32_uint32_ps slices_Equalasl_uint32_uint32_rs slices_Equalasl_uint32_uint32_L := (fnQ_of k_slices_Equalasl_uint32_uint32 (tab := tab_slices_Equalasl_uint32_uint32) ⟨trivial, trivial⟩ rfl).of_eq slices_Equalasl_uint32_uint32_eq
noncomputable def ct_slices_Equalasl_uint32_uint32 : Ct := ctRd slices_Equalasl_uint32_uint32_ps slices_Equalasl_uint32_uint32_rs slices_Equalasl_uint32_uint32_L
theorem ct_slices_Equalasl_uint32_uint32_ok : SoundCt Try.prog f_slices_Equalasl_uint32_uint32 ct_slices_Equalasl_uint32_uint32 := ctRd_sound slices_Equalasl_uint32_uint32_fq
def plan_path_Same_1 : PPlan := ⟨[], [], [], [], [], []⟩
theorem k_path_Same_1 : Known Try.prog f_path_Same_1 Try.f87 plan_path_Same_1.plan (bodyOf Try.f87) := by refine ⟨Try.func87, ?_, ?_, ?_, ?_, ?_⟩ <;> kernel_rfl
abbrev path_Same_1_ps : List Pk := [Pk.agg [Kd.bool, Kd.lst [Kd.int .u32]], Pk.agg [Kd.bool, Kd.lst [Kd.int .u32]]]
abbrev path_Same_1_rs : List Pk := [Pk.bool]
def path_Same_1_q (x0 : Bool × List UInt32) (y1 : Bool × List UInt32) (K : Bool → Prop) : Prop :=
 IfB (x0.1 == y1.1)
 ((WfPs slices_Equalasl_uint32_uint32_ps (x0.2, y1.2, ()) →
 slices_Equalasl_uint32_uint32_q x0.2 y1.2 (fun x15 =>
 WfPs slices_Equalasl_uint32_uint32_rs (x15, ()) →
 K x15)))
 (K false)
noncomputable def tab_path_Same_1 : Tab := ⟨[(f_slices_Equalasl_uint32_uint32, ct_slices_Equalasl_uint32_uint32)], []⟩
abbrev path_Same_1_L (x : PkTs path_Same_1_ps) (K : PkTs path_Same_1_rs → Prop) : Prop := path_Same_1_q x.1 x.2.1 (fun r0 => K (r0, ()))
theorem path_Same_1_eq : path_Same_1_L = fun x K => PCode Try.prog tab_path_Same_1 plan_path_Same_1 (bodyOf Try.f87) (parS path_Same_1_ps x) (PRet Try.prog Try.f87.results.toList fun a st => outP path_Same_1_rs st a K) := by kernel_rfl
theorem path_Same_1_fq : FnQ Try.prog f_path_Same_1 path_Same_1_ps path_Same_1_rs path_Same_1_L := (fnQ_of k_path_Same_1 (tab := tab_path_Same_1) ⟨⟨ct_slices_Equalasl_uint32_uint32_ok, trivial⟩, trivial⟩ rfl).of_eq path_Same_1_eq
noncomputable def ct_path_Same_1 : Ct := ctRd path_Same_1_ps path_Same_1_rs path_Same_1_L
theorem ct_path_Same_1_ok : SoundCt Try.prog f_path_Same_1 ct_path_Same_1 := ctRd_sound path_Same_1_fq
def pl_slices_EqualFuncasl_api_Segment_sl_api_Segment_api_Segment_api_Segment_at_path_Same_1_4 : PLoop := ⟨[(17, PK.int .i64)], [1, 2, 15, 16], []⟩
def plan_slices_EqualFuncasl_api_Segment_sl_api_Segment_api_Segment_api_Segment_at_path_Same_1 : PPlan := ⟨[], [(4, pl_slices_EqualFuncasl_api_Segment_sl_api_Segment_api_Segment_api_Segment_at_path_Same_1_4)], [], [], [], []⟩
theorem k_slices_EqualFuncasl_api_Segment_sl_api_Segment_api_Segment_api_Segment_at_path_Same_1 : Known Try.prog f_slices_EqualFuncasl_api_Segment_sl_api_Segment_api_Segment_api_Segment Try.f86 plan_slices_EqualFuncasl_api_Segment_sl_api_Segment_api_Segment_api_Segment_at_path_Same_1.plan (bodyOf Try.f86) := by refine ⟨Try.func86, ?_, ?_, ?_, ?_, ?_⟩ <;> kernel_rfl
abbrev slices_EqualFuncasl_api_Segment_sl_api_Segment_api_Segment_api_Segment_at_path_Same_1_ps : List Pk := [Pk.lst [Kd.bool, Kd.lst [Kd.int .u32]], Pk.lst [Kd.bool, Kd.lst [Kd.int .u32]], Pk.fn 87]
abbrev slices_EqualFuncasl_api_Segment_sl_api_Segment_api_Segment_api_Segment_at_path_Same_1_rs : List Pk := [Pk.bool]
def slices_EqualFuncasl_api_Segment_sl_api_Segment_api_Segment_api_Segment_at_path_Same_1_l4 (s21 : List (Bool × List UInt32)) (s10 : List (Bool × List UInt32)) (x17 : Int) (next4 : (Int × Unit) → Prop) (K : Bool → Prop) : Prop :=
 IfB (decide ((x17 : Int) < (s10.length : Int)))
 ((0 : Int) ≤ x17 ∧ AtN s10 x17.toNat fun x20 =>
 WfT ks_bool_lst_int_u32 x20 →
 (0 : Int) ≤ x17 ∧ AtN s21 x17.toNat fun x24 =>
 WfT ks_bool_lst_int_u32 x24 →
 (WfPs path_Same_1_ps (x20, x24, ()) →
 path_Same_1_q x20 x24 (fun x29 =>
 WfPs path_Same_1_rs (x29, ()) →
 IfB (!x29)
 (K false)
 (next4 ((IntKind.wrap .i64 (x17 + 1)), ())))))
 (K true)
def slices_EqualFuncasl_api_Segment_sl_api_Segment_api_Segment_api_Segment_at_path_Same_1_q (s10 : List (Bool × List UInt32)) (s21 : List (Bool × List UInt32)) (K : Bool → Prop) : Prop :=
 IfB (((s10.length : Int) : Int) != (s21.length : Int))
 (K false)
 (LoopJ (Int × Unit) ((0 : Int), ()) fun y next =>
 WfY pl_slices_EqualFuncasl_api_Segment_sl_api_Segment_api_Segment_api_Segment_at_path_Same_1_4.kinds y →
 slices_EqualFuncasl_api_Segment_sl_api_Segment_api_Segment_api_Segment_at_path_Same_1_l4 s21 s10 y.1 next K)
noncomputable def tab_slices_EqualFuncasl_api_Segment_sl_api_Segment_api_Segment_api_Segment_at_path_Same_1 : Tab := ⟨[(f_path_Same_1, ct_path_Same_1)], []⟩
abbrev slices_EqualFuncasl_api_Segment_sl_api_Segment_api_Segment_api_Segment_at_path_Same_1_L (x : PkTs slices_EqualFuncasl_api_Segment_sl_api_Segment_api_Segment_api_Segment_at_path_Same_1_ps) (K : PkTs slices_EqualFuncasl_api_Segment_sl_api_Segment_api_Segment_api_Segment_at_path_Same_1_rs → Prop) : Prop := slices_EqualFuncasl_api_Segment_sl_api_Segment_api_Segment_api_Segment_at_path_Same_1_q x.1 x.2.1 (fun r0 => K (r0, ()))
theorem slices_EqualFuncasl_api_Segment_sl_api_Segment_api_Segment_api_Segment_at_path_Same_1_eq : slices_EqualFuncasl_api_Segment_sl_api_Segment_api_Segment_api_Segment_at_path_Same_1_L = fun x K => PCode Try.prog tab_slices_EqualFuncasl_api_Segment_sl_api_Segment_api_Segment_api_Segment_at_path_Same_1 plan_slices_EqualFuncasl_api_Segment_sl_api_Segment_api_Segment_api_Segment_at_path_Same_1 (bodyOf Try.f86) (parS slices_EqualFuncasl_api_Segment_sl_api_Segment_api_Segment_api_Segment_at_path_Same_1_ps x) (PRet Try.prog Try.f86.results.toList fun a st => outP slices_EqualFuncasl_api_Segment_sl_api_Segment_api_Segment_api_Segment_at_path_Same_1_rs st a K) := by kernel_rfl
theorem slices_EqualFuncasl_api_Segment_sl_api_Segment_api_Segment_api_Segment_at_path_Same_1_fq : FnQ Try.prog f_slices_EqualFuncasl_api_Segment_sl_api_Segment_api_Segment_api_Segment slices_EqualFuncasl_api_Segment_sl_api_Segment_api_Segment_api_Segment_at_path_Same_1_ps slices_EqualFuncasl_api_Segment_sl_api_Segment_api_Segment_api_Segment_at_path_Same_1_rs slices_EqualFuncasl_api_Segment_sl_api_Segment_api_Segment_api_Segment_at_path_Same_1_L := (fnQ_of k_slices_EqualFuncasl_api_Segment_sl_api_Segment_api_Segment_api_Segment_at_path_Same_1 (tab := tab_slices_EqualFuncasl_api_Segment_sl_api_Segment_api_Segment_api_Segment_at_path_Same_1) ⟨⟨ct_path_Same_1_ok, trivial⟩, trivial⟩ rfl).of_eq slices_EqualFuncasl_api_Segment_sl_api_Segment_api_Segment_api_Segment_at_path_Same_1_eq
noncomputable def ct_slices_EqualFuncasl_api_Segment_sl_api_Segment_api_Segment_api_Segment_at_path_Same_1 : Ct := ctRd slices_EqualFuncasl_api_Segment_sl_api_Segment_api_Segment_api_Segment_at_path_Same_1_ps slices_EqualFuncasl_api_Segment_sl_api_Segment_api_Segment_api_Segment_at_path_Same_1_rs slices_EqualFuncasl_api_Segment_sl_api_Segment_api_Segment_api_Segment_at_path_Same_1_L
theorem ct_slices_EqualFuncasl_api_Segment_sl_api_Segment_api_Segment_api_Segment_at_path_Same_1_ok : SoundCt Try.prog f_slices_EqualFuncasl_api_Segment_sl_api_Segment_api_Segment_api_Segment ct_slices_EqualFuncasl_api_Segment_sl_api_Segment_api_Segment_api_Segment_at_path_Same_1 := ctRd_sound slices_EqualFuncasl_api_Segment_sl_api_Segment_api_Segment_api_Segment_at_path_Same_1_fq
def plan_path_Same : PPlan := ⟨[], [], [], [], [], []⟩
theorem k_path_Same : Known Try.prog f_path_Same Try.f68 plan_path_Same.plan (bodyOf Try.f68) := by refine ⟨Try.func68, ?_, ?_, ?_, ?_, ?_⟩ <;> kernel_rfl
abbrev path_Same_ps : List Pk := [Pk.lst [Kd.bool, Kd.lst [Kd.int .u32]], Pk.lst [Kd.bool, Kd.lst [Kd.int .u32]]]
abbrev path_Same_rs : List Pk := [Pk.bool]
def path_Same_q (a0 : List (Bool × List UInt32)) (b1 : List (Bool × List UInt32)) (K : Bool → Prop) : Prop :=
 (WfPs slices_EqualFuncasl_api_Segment_sl_api_Segment_api_Segment_api_Segment_at_path_Same_1_ps (a0, b1, (), ()) →
 slices_EqualFuncasl_api_Segment_sl_api_Segment_api_Segment_api_Segment_at_path_Same_1_q a0 b1 (fun x7 =>
 WfPs slices_EqualFuncasl_api_Segment_sl_api_Segment_api_Segment_api_Segment_at_path_Same_1_rs (x7, ()) →
 K x7))
noncomputable def tab_path_Same : Tab := ⟨[(f_slices_EqualFuncasl_api_Segment_sl_api_Segment_api_Segment_api_Segment, ctDisp 2 [(f_path_Same_1, ct_slices_EqualFuncasl_api_Segment_sl_api_Segment_api_Segment_api_Segment_at_path_Same_1)])], []⟩
abbrev path_Same_L (x : PkTs path_Same_ps) (K : PkTs path_Same_rs → Prop) : Prop := path_Same_q x.1 x.2.1 (fun r0 => K (r0, ()))
theorem path_Same_eq : path_Same_L = fun x K => PCode Try.prog tab_path_Same plan_path_Same (bodyOf Try.f68) (parS path_Same_ps x) (PRet Try.prog Try.f68.results.toList fun a st => outP path_Same_rs st a K) := by kernel_rfl
theorem path_Same_fq : FnQ Try.prog f_path_Same path_Same_ps path_Same_rs path_Same_L := (fnQ_of k_path_Same (tab := tab_path_Same) ⟨⟨ctDisp_sound ⟨ct_slices_EqualFuncasl_api_Segment_sl_api_Segment_api_Segment_api_Segment_at_path_Same_1_ok, trivial⟩, trivial⟩, trivial⟩ rfl).of_eq path_Same_eq
noncomputable def ct_path_Same : Ct := ctRd path_Same_ps path_Same_rs path_Same_L
theorem ct_path_Same_ok : SoundCt Try.prog f_path_Same ct_path_Same := ctRd_sound path_Same_fq
def pl_slices_EqualFuncasl_api_Raw_sl_api_Raw_api_Raw_api_Raw_at_attr_Same_1_4 : PLoop := ⟨[(17, PK.int .i64)], [1, 2, 15, 16], []⟩
def plan_slices_EqualFuncasl_api_Raw_sl_api_Raw_api_Raw_api_Raw_at_attr_Same_1 : PPlan := ⟨[], [(4, pl_slices_EqualFuncasl_api_Raw_sl_api_Raw_api_Raw_api_Raw_at_attr_Same_1_4)], [], [], [], []⟩
theorem k_slices_EqualFuncasl_api_Raw_sl_api_Raw_api_Raw_api_Raw_at_attr_Same_1 : Known Try.prog f_slices_EqualFuncasl_api_Raw_sl_api_Raw_api_Raw_api_Raw Try.f70 plan_slices_EqualFuncasl_api_Raw_sl_api_Raw_api_Raw_api_Raw_at_attr_Same_1.plan (bodyOf Try.f70) := by refine ⟨Try.func70, ?_, ?_, ?_, ?_, ?_⟩ <;> kernel_rfl
abbrev slices_EqualFuncasl_api_Raw_sl_api_Raw_api_Raw_api_Raw_at_attr_Same_1_ps : List Pk := [Pk.lst [Kd.int .i64, Kd.lst [Kd.int .u8]], Pk.lst [Kd.int .i64, Kd.lst [Kd.int .u8]], Pk.fn 65]
abbrev slices_EqualFuncasl_api_Raw_sl_api_Raw_api_Raw_api_Raw_at_attr_Same_1_rs : List Pk := [Pk.bool]
def slices_EqualFuncasl_api_Raw_sl_api_Raw_api_Raw_api_Raw_at_attr_Same_1_l4 (s21 : List (Int × List UInt8)) (s10 : List (Int × List UInt8)) (x17 : Int) (next4 : (Int × Unit) → Prop) (K : Bool → Prop) : Prop :=
 IfB (decide ((x17 : Int) < (s10.length : Int)))
 ((0 : Int) ≤ x17 ∧ AtN s10 x17.toNat fun x20 =>
 WfT ks_int_i64_lst_int_u8 x20 →
 (0 : Int) ≤ x17 ∧ AtN s21 x17.toNat fun x24 =>
 WfT ks_int_i64_lst_int_u8 x24 →
 (WfPs attr_Same_1_ps (x20, x24, ()) →
 attr_Same_1_q x20 x24 (fun x29 =>
 WfPs attr_Same_1_rs (x29, ()) →
 IfB (!x29)
 (K false)
 (next4 ((IntKind.wrap .i64 (x17 + 1)), ())))))
 (K true)
def slices_EqualFuncasl_api_Raw_sl_api_Raw_api_Raw_api_Raw_at_attr_Same_1_q (s10 : List (Int × List UInt8)) (s21 : List (Int × List UInt8)) (K : Bool → Prop) : Prop :=
 IfB (((s10.length : Int) : Int) != (s21.length : Int))
 (K false)
 (LoopJ (Int × Unit) ((0 : Int), ()) fun y next =>
 WfY pl_slices_EqualFuncasl_api_Raw_sl_api_Raw_api_Raw_api_Raw_at_attr_Same_1_4.kinds y →
 slices_EqualFuncasl_api_Raw_sl_api_Raw_api_Raw_api_Raw_at_attr_Same_1_l4 s21 s10 y.1 next K)
noncomputable def tab_slices_EqualFuncasl_api_Raw_sl_api_Raw_api_Raw_api_Raw_at_attr_Same_1 : Tab := ⟨[(f_attr_Same_1, ct_attr_Same_1)], []⟩
abbrev slices_EqualFuncasl_api_Raw_sl_api_Raw_api_Raw_api_Raw_at_attr_Same_1_L (x : PkTs slices_EqualFuncasl_api_Raw_sl_api_Raw_api_Raw_api_Raw_at_attr_Same_1_ps) (K : PkTs slices_EqualFuncasl_api_Raw_sl_api_Raw_api_Raw_api_Raw_at_attr_Same_1_rs → Prop) : Prop := slices_EqualFuncasl_api_Raw_sl_api_Raw_api_Raw_api_Raw_at_attr_Same_1_q x.1 x.2.1 (fun r0 => K (r0, ()))
theorem slices_EqualFuncasl_api_Raw_sl_api_Raw_api_Raw_api_Raw_at_attr_Same_1_eq : slices_EqualFuncasl_api_Raw_sl_api_Raw_api_Raw_api_Raw_at_attr_Same_1_L = fun x K => PCode Try.prog tab_slices_EqualFuncasl_api_Raw_sl_api_Raw_api_Raw_api_Raw_at_attr_Same_1 plan_slices_EqualFuncasl_api_Raw_sl_api_Raw_api_Raw_api_Raw_at_attr_Same_1 (bodyOf Try.f70) (parS slices_EqualFuncasl_api_Raw_sl_api_Raw_api_Raw_api_Raw_at_attr_Same_1_ps x) (PRet Try.prog Try.f70.results.toList fun a st => outP slices_EqualFuncasl_api_Raw_sl_api_Raw_api_Raw_api_Raw_at_attr_Same_1_rs st a K) := by kernel_rfl
theorem slices_EqualFuncasl_api_Raw_sl_api_Raw_api_Raw_api_Raw_at_attr_Same_1_fq : FnQ Try.prog f_slices_EqualFuncasl_api_Raw_sl_api_Raw_api_Raw_api_Raw slices_EqualFuncasl_api_Raw_sl_api_Raw_api_Raw_api_Raw_at_attr_Same_1_ps slices_EqualFuncasl_api_Raw_sl_api_Raw_api_Raw_api_Raw_at_attr_Same_1_rs slices_EqualFuncasl_api_Raw_sl_api_Raw_api_Raw_api_Raw_at_attr_Same_1_L := (fnQ_of k_slices_EqualFuncasl_api_Raw_sl_api_Raw_api_Raw_api_Raw_at_attr_Same_1 (tab := tab_slices_EqualFuncasl_api_Raw_sl_api_Raw_api_Raw_api_Raw_at_attr_Same_1) ⟨⟨ct_attr_Same_1_ok, trivial⟩, trivial⟩ rfl).of_eq slices_EqualFuncasl_api_Raw_sl_api_Raw_api_Raw_api_Raw_at_attr_Same_1_eq
noncomputable def ct_slices_EqualFuncasl_api_Raw_sl_api_Raw_api_Raw_api_Raw_at_attr_Same_1 : Ct := ctRd slices_EqualFuncasl_api_Raw_sl_api_Raw_api_Raw_api_Raw_at_attr_Same_1_ps slices_EqualFuncasl_api_Raw_sl_api_Raw_api_Raw_api_Raw_at_attr_Same_1_rs slices_EqualFuncasl_api_Raw_sl_api_Raw_api_Raw_api_Raw_at_attr_Same_1_L
theorem ct_slices_EqualFuncasl_api_Raw_sl_api_Raw_api_Raw_api_Raw_at_attr_Same_1_ok : SoundCt Try.prog f_slices_EqualFuncasl_api_Raw_sl_api_Raw_api_Raw_api_Raw ct_slices_EqualFuncasl_api_Raw_sl_api_Raw_api_Raw_api_Raw_at_attr_Same_1 := ctRd_sound slices_EqualFuncasl_api_Raw_sl_api_Raw_api_Raw_api_Raw_at_attr_Same_1_fq
def plan_attr_Same : PPlan := ⟨[], [], [], [], [], []⟩
theorem k_attr_Same : Known Try.prog f_attr_Same Try.f40 plan_attr_Same.plan (bodyOf Try.f40) := by refine ⟨Try.func40, ?_, ?_, ?_, ?_, ?_⟩ <;> kernel_rfl
abbrev attr_Same_ps : List Pk := [Pk.agg [Kd.int .i64, Kd.lst [Kd.bool, Kd.lst [Kd.int .u32]], Kd.int .u32, Kd.bool, Kd.int .u32, Kd.bool, Kd.int .u32, Kd.bool, Kd.bool, Kd.int .u32, Kd.int .u32, Kd.lst [Kd.int .u32], Kd.lst [Kd.int .i64, Kd.lst [Kd.int .u8]]], Pk.agg [Kd.int .i64, Kd.lst [Kd.bool, Kd.lst [Kd.int .u32]], Kd.int .u32, Kd.bool, Kd.int .u32, Kd.bool, Kd.int .u32, Kd.bool, Kd.bool, Kd.int .u32, Kd.int .u32, Kd.lst [Kd.int .u32], Kd.lst [Kd.int .i64, Kd.lst [Kd.int .u8]]]]
abbrev attr_Same_rs : List Pk := [Pk.bool]
def attr_Same_j2 (a0 : Int × List (Bool × List UInt32) × UInt32 × Bool × UInt32 × Bool × UInt32 × Bool × Bool × UInt32 × UInt32 × List UInt32 × List (Int × List UInt8)) (b1 : Int × List (Bool × List UInt32) × UInt32 × Bool × UInt32 × Bool × UInt32 × Bool × Bool × UInt32 × UInt32 × List UInt32 × List (Int × List UInt8)) (j26_2 : Bool) (K : Bool → Prop) : Prop :=
 IfB j26_2
 (K false)
 ((WfPs path_Same_ps (a0.2.1, b1.2.1, ()) →
 path_Same_q a0.2.1 b1.2.1 (fun x74 =>
 WfPs path_Same_rs (x74, ()) →
 IfB x74
 ((WfPs slices_Equalasl_uint32_uint32_ps (a0.2.2.2.2.2.2.2.2.2.2.2.1, b1.2.2.2.2.2.2.2.2.2.2.2.1, ()) →
 slices_Equalasl_uint32_uint32_q a0.2.2.2.2.2.2.2.2.2.2.2.1 b1.2.2.2.2.2.2.2.2.2.2.2.1 (fun x80 =>
 WfPs slices_Equalasl_uint32_uint32_rs (x80, ()) →
 IfB x80
 ((WfPs slices_EqualFuncasl_api_Raw_sl_api_Raw_api_Raw_api_Raw_at_attr_Same_1_ps (a0.2.2.2.2.2.2.2.2.2.2.2.2, b1.2.2.2.2.2.2.2.2.2.2.2.2, (), ()) →
 slices_EqualFuncasl_api_Raw_sl_api_Raw_api_Raw_api_Raw_at_attr_Same_1_q a0.2.2.2.2.2.2.2.2.2.2.2.2 b1.2.2.2.2.2.2.2.2.2.2.2.2 (fun x88 =>
 WfPs slices_EqualFuncasl_api_Raw_sl_api_Raw_api_Raw_api_Raw_at_attr_Same_1_rs (x88, ()) →
 K x88)))
 (K false))))
 (K false))))
def attr_Same_j1 (a0 : Int × List (Bool × List UInt32) × UInt32 × Bool × UInt32 × Bool × UInt32 × Bool × Bool × UInt32 × UInt32 × List UInt32 × List (Int × List UInt8)) (b1 : Int × List (Bool × List UInt32) × UInt32 × Bool × UInt32 × Bool × UInt32 × Bool × Bool × UInt32 × UInt32 × List UInt32 × List (Int × List UInt8)) (j26_1 : Bool) (K : Bool → Prop) : Prop :=
 IfB j26_1
 (K false)
 (IfB (((a0.2.2.2.2.2.2.2.2.2.1.toNat : Int) : Int) == (b1.2.2.2.2.2.2.2.2.2.1.toNat : Int))
 ((WfPs attr_perhaps_ps (a0.2.2.2.2.2.2.2.2.1, b1.2.2.2.2.2.2.2.2.1, (((a0.2.2.2.2.2.2.2.2.2.2.1.toNat : Int) : Int) == (b1.2.2.2.2.2.2.2.2.2.2.1.toNat : Int)), ()) →
 attr_perhaps_q a0.2.2.2.2.2.2.2.2.1 b1.2.2.2.2.2.2.2.2.1 (((a0.2.2.2.2.2.2.2.2.2.2.1.toNat : Int) : Int) == (b1.2.2.2.2.2.2.2.2.2.2.1.toNat : Int)) (fun x68 =>
 WfPs attr_perhaps_rs (x68, ()) →
 attr_Same_j2 a0 b1 (!x68) K)))
 ((WfPs attr_perhaps_ps (a0.2.2.2.2.2.2.2.2.1, b1.2.2.2.2.2.2.2.2.1, false, ()) →
 attr_perhaps_q a0.2.2.2.2.2.2.2.2.1 b1.2.2.2.2.2.2.2.2.1 false (fun x68_1 =>
 WfPs attr_perhaps_rs (x68_1, ()) →
 attr_Same_j2 a0 b1 (!x68_1) K))))
def attr_Same_j0 (a0 : Int × List (Bool × List UInt32) × UInt32 × Bool × UInt32 × Bool × UInt32 × Bool × Bool × UInt32 × UInt32 × List UInt32 × List (Int × List UInt8)) (b1 : Int × List (Bool × List UInt32) × UInt32 × Bool × UInt32 × Bool × UInt32 × Bool × Bool × UInt32 × UInt32 × List UInt32 × List (Int × List UInt8)) (j26 : Bool) (K : Bool → Prop) : Prop :=
 IfB j26
 (K false)
 ((WfPs attr_perhaps_ps (a0.2.2.2.1, b1.2.2.2.1, (((a0.2.2.2.2.1.toNat : Int) : Int) == (b1.2.2.2.2.1.toNat : Int)), ()) →
 attr_perhaps_q a0.2.2.2.1 b1.2.2.2.1 (((a0.2.2.2.2.1.toNat : Int) : Int) == (b1.2.2.2.2.1.toNat : Int)) (fun x36 =>
 WfPs attr_perhaps_rs (x36, ()) →
 IfB (!x36)
 (attr_Same_j1 a0 b1 true K)
 ((WfPs attr_perhaps_ps (a0.2.2.2.2.2.1, b1.2.2.2.2.2.1, (((a0.2.2.2.2.2.2.1.toNat : Int) : Int) == (b1.2.2.2.2.2.2.1.toNat : Int)), ()) →
 attr_perhaps_q a0.2.2.2.2.2.1 b1.2.2.2.2.2.1 (((a0.2.2.2.2.2.2.1.toNat : Int) : Int) == (b1.2.2.2.2.2.2.1.toNat : Int)) (fun x48 =>
 WfPs attr_perhaps_rs (x48, ()) →
 attr_Same_j1 a0 b1 (!x48) K))))))
def attr_Same_q (a0 : Int × List (Bool × List UInt32) × UInt32 × Bool × UInt32 × Bool × UInt32 × Bool × Bool × UInt32 × UInt32 × List UInt32 × List (Int × List UInt8)) (b1 : Int × List (Bool × List UInt32) × UInt32 × Bool × UInt32 × Bool × UInt32 × Bool × Bool × UInt32 × UInt32 × List UInt32 × List (Int × List UInt8)) (K : Bool → Prop) : Prop :=
 IfB ((a0.1 : Int) != b1.1)
 (attr_Same_j0 a0 b1 true K)
 (IfB (((a0.2.2.1.toNat : Int) : Int) != (b1.2.2.1.toNat : Int))
 (attr_Same_j0 a0 b1 true K)
 (attr_Same_j0 a0 b1 (!(a0.2.2.2.2.2.2.2.1 == b1.2.2.2.2.2.2.2.1)) K))
noncomputable def tab_attr_Same : Tab := ⟨[(f_attr_perhaps, ct_attr_perhaps), (f_path_Same, ct_path_Same), (f_slices_Equalasl_uint32_uint32, ct_slices_Equalasl_uint32_uint32), (f_slices_EqualFuncasl_api_Raw_sl_api_Raw_api_Raw_api_Raw, ctDisp 2 [(f_attr_Same_1, ct_slices_EqualFuncasl_api_Raw_sl_api_Raw_api_Raw_api_Raw_at_attr_Same_1)])], []⟩
abbrev attr_Same_L (x : PkTs attr_Same_ps) (K : PkTs attr_Same_rs → Prop) : Prop := attr_Same_q x.1 x.2.1 (fun r0 => K (r0, ()))
theorem attr_Same_eq : attr_Same_L = fun x K => PCode Try.prog tab_attr_Same plan_attr_Same (bodyOf Try.f40) (parS attr_Same_ps x) (PRet Try.prog Try.f40.results.toList fun a st => outP attr_Same_rs st a K) := by kernel_rfl
theorem attr_Same_fq : FnQ Try.prog f_attr_Same attr_Same_ps attr_Same_rs attr_Same_L := (fnQ_of k_attr_Same (tab := tab_attr_Same) ⟨⟨ct_attr_perhaps_ok, ct_path_Same_ok, ct_slices_Equalasl_uint32_uint32_ok, ctDisp_sound ⟨ct_slices_EqualFuncasl_api_Raw_sl_api_Raw_api_Raw_api_Raw_at_attr_Same_1_ok, trivial⟩, trivial⟩, trivial⟩ rfl).of_eq attr_Same_eq
noncomputable def ct_attr_Same : Ct := ctRd attr_Same_ps attr_Same_rs attr_Same_L
theorem ct_attr_Same_ok : SoundCt Try.prog f_attr_Same ct_attr_Same := ctRd_sound attr_Same_fq
def plan_pack_alike : PPlan := ⟨[], [], [], [], [], []⟩
theorem k_pack_alike : Known Try.prog f_pack_alike Try.f23 plan_pack_alike.plan (bodyOf Try.f23) := by refine ⟨Try.func23, ?_, ?_, ?_, ?_, ?_⟩ <;> kernel_rfl
abbrev pack_alike_ps : List Pk := [Pk.agg [Kd.int .u32, Kd.int .i64, Kd.int .i64, Kd.lst [Kd.bool, Kd.lst [Kd.int .u32]], Kd.int .u32, Kd.bool, Kd.int .u32, Kd.bool, Kd.int .u32, Kd.bool, Kd.bool, Kd.int .u32, Kd.int .u32, Kd.lst [Kd.int .u32], Kd.lst [Kd.int .i64, Kd.lst [Kd.int .u8]], Kd.bool], Pk.agg [Kd.int .u32, Kd.int .i64, Kd.int .i64, Kd.lst [Kd.bool, Kd.lst [Kd.int .u32]], Kd.int .u32, Kd.bool, Kd.int .u32, Kd.bool, Kd.int .u32, Kd.bool, Kd.bool, Kd.int .u32, Kd.int .u32, Kd.lst [Kd.int .u32], Kd.lst [Kd.int .i64, Kd.lst [Kd.int .u8]], Kd.bool]]
abbrev pack_alike_rs : List Pk := [Pk.bool]
def pack_alike_q (a0 : UInt32 × Int × Int × List (Bool × List UInt32) × UInt32 × Bool × UInt32 × Bool × UInt32 × Bool × Bool × UInt32 × UInt32 × List UInt32 × List (Int × List UInt8) × Bool) (b1 : UInt32 × Int × Int × List (Bool × List UInt32) × UInt32 × Bool × UInt32 × Bool × UInt32 × Bool × Bool × UInt32 × UInt32 × List UInt32 × List (Int × List UInt8) × Bool) (K : Bool → Prop) : Prop :=
 (WfPs attr_Same_ps (((a0.2.2.1, a0.2.2.2.1, (ofI .u32 (a0.2.2.2.2.1.toNat : Int)), a0.2.2.2.2.2.1, (ofI .u32 (a0.2.2.2.2.2.2.1.toNat : Int)), a0.2.2.2.2.2.2.2.1, (ofI .u32 (a0.2.2.2.2.2.2.2.2.1.toNat : Int)), a0.2.2.2.2.2.2.2.2.2.1, a0.2.2.2.2.2.2.2.2.2.2.1, (ofI .u32 (a0.2.2.2.2.2.2.2.2.2.2.2.1.toNat : Int)), (ofI .u32 (a0.2.2.2.2.2.2.2.2.2.2.2.2.1.toNat : Int)), a0.2.2.2.2.2.2.2.2.2.2.2.2.2.1, a0.2.2.2.2.2.2.2.2.2.2.2.2.2.2.1) : Int × List (Bool × List UInt32) × UInt32 × Bool × UInt32 × Bool × UInt32 × Bool × Bool × UInt32 × UInt32 × List UInt32 × List (Int × List UInt8)), ((b1.2.2.1, b1.2.2.2.1, (ofI .u32 (b1.2.2.2.2.1.toNat : Int)), b1.2.2.2.2.2.1, (ofI .u32 (b1.2.2.2.2.2.2.1.toNat : Int)), b1.2.2.2.2.2.2.2.1, (ofI .u32 (b1.2.2.2.2.2.2.2.2.1.toNat : Int)), b1.2.2.2.2.2.2.2.2.2.1, b1.2.2.2.2.2.2.2.2.2.2.1, (ofI .u32 (b1.2.2.2.2.2.2.2.2.2.2.2.1.toNat : Int)), (ofI .u32 (b1.2.2.2.2.2.2.2.2.2.2.2.2.1.toNat : Int)), b1.2.2.2.2.2.2.2.2.2.2.2.2.2.1, b1.2.2.2.2.2.2.2.2.2.2.2.2.2.2.1) : Int × List (Bool × List UInt32) × UInt32 × Bool × UInt32 × Bool × UInt32 × Bool × Bool × UInt32 × UInt32 × List UInt32 × List (Int × List UInt8)), ()) →
 attr_Same_q ((a0.2.2.1, a0.2.2.2.1, (ofI .u32 (a0.2.2.2.2.1.toNat : Int)), a0.2.2.2.2.2.1, (ofI .u32 (a0.2.2.2.2.2.2.1.toNat : Int)), a0.2.2.2.2.2.2.2.1, (ofI .u32 (a0.2.2.2.2.2.2.2.2.1.toNat : Int)), a0.2.2.2.2.2.2.2.2.2.1, a0.2.2.2.2.2.2.2.2.2.2.1, (ofI .u32 (a0.2.2.2.2.2.2.2.2.2.2.2.1.toNat : Int)), (ofI .u32 (a0.2.2.2.2.2.2.2.2.2.2.2.2.1.toNat : Int)), a0.2.2.2.2.2.2.2.2.2.2.2.2.2.1, a0.2.2.2.2.2.2.2.2.2.2.2.2.2.2.1) : Int × List (Bool × List UInt32) × UInt32 × Bool × UInt32 × Bool × UInt32 × Bool × Bool × UInt32 × UInt32 × List UInt32 × List (Int × List UInt8)) ((b1.2.2.1, b1.2.2.2.1, (ofI .u32 (b1.2.2.2.2.1.toNat : Int)), b1.2.2.2.2.2.1, (ofI .u32 (b1.2.2.2.2.2.2.1.toNat : Int)), b1.2.2.2.2.2.2.2.1, (ofI .u32 (b1.2.2.2.2.2.2.2.2.1.toNat : Int)), b1.2.2.2.2.2.2.2.2.2.1, b1.2.2.2.2.2.2.2.2.2.2.1, (ofI .u32 (b1.2.2.2.2.2.2.2.2.2.2.2.1.toNat : Int)), (ofI .u32 (b1.2.2.2.2.2.2.2.2.2.2.2.2.1.toNat : Int)), b1.2.2.2.2.2.2.2.2.2.2.2.2.2.1, b1.2.2.2.2.2.2.2.2.2.2.2.2.2.2.1) : Int × List (Bool × List UInt32) × UInt32 × Bool × UInt32 × Bool × UInt32 × Bool × Bool × UInt32 × UInt32 × List UInt32 × List (Int × List UInt8)) (fun x9 =>
 WfPs attr_Same_rs (x9, ()) →
 K x9))
noncomputable def tab_pack_alike : Tab := ⟨[(f_attr_Same, ct_attr_Same)], []⟩
abbrev pack_alike_L (x : PkTs pack_alike_ps) (K : PkTs pack_alike_rs → Prop) : Prop := pack_alike_q x.1 x.2.1 (fun r0 => K (r0, ()))
theorem pack_alike_eq : pack_alike_L = fun x K => PCode Try.prog tab_pack_alike plan_pack_alike (bodyOf Try.f23) (parS pack_alike_ps x) (PRet Try.prog Try.f23.results.toList fun a st => outP pack_alike_rs st a K) := by kernel_rfl
theorem pack_alike_fq : FnQ Try.prog f_pack_alike pack_alike_ps pack_alike_rs pack_alike_L := (fnQ_of k_pack_alike (tab := tab_pack_alike) ⟨⟨ct_attr_Same_ok, trivial⟩, trivial⟩ rfl).of_eq pack_alike_eq
end Go.Proofs.Ytgdkenndkhnkdaa
