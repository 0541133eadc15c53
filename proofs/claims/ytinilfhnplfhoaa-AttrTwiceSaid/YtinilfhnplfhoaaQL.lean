/-
  SOME FUNCTIONS OVER PLAIN DATA: printed by a program of ours over this translation.
-/
import Derived.Test.YtinilfhnplfhoaaNum
import Derived.Test.YtinilfhnplfhoaaRB
set_option linter.all false
set_option maxRecDepth 100000
set_option maxHeartbeats 4000000
namespace Go.Proofs.Ytinilfhnplfhoaa
open Go.Sh
abbrev TyL1 := Int × List (Bool × List UInt32) × UInt32 × Bool × UInt32 × Bool × UInt32 × Bool × Bool × UInt32 × UInt32 × List UInt32 × List (Int × List UInt8)
def pl_ref19_Same_4 : PLoop := ⟨[(5, PK.int .i64)], [0, 1], []⟩
def pl_ref19_Same_9 : PLoop := ⟨[(6, PK.int .i64)], [0, 1, 5], []⟩
def plan_ref19_Same : PPlan := ⟨[], [(4, pl_ref19_Same_4), (9, pl_ref19_Same_9)], [], [], [], []⟩
theorem k_ref19_Same : Known Try.prog f_ref19_Same Try.f46 plan_ref19_Same.plan (bodyOf Try.f46) := by refine ⟨Try.func46, ?_, ?_, ?_, ?_, ?_⟩ <;> kernel_rfl
abbrev ref19_Same_ps : List Pk := [Pk.lst [Kd.bool, Kd.lst [Kd.int .u32]], Pk.lst [Kd.bool, Kd.lst [Kd.int .u32]]]
abbrev ref19_Same_rs : List Pk := [Pk.bool]
def ref19_Same_l9 (a0 : List (Bool × List UInt32)) (b1 : List (Bool × List UInt32)) (i5 : Int) (next4 : (Int × Unit) -> Prop) (k6 : Int) (next9 : (Int × Unit) -> Prop) (K : Bool -> Prop) : Prop :=
 (0 : Int) <= i5 ∧ AtN a0 i5.toNat fun x47 =>
 WfT ks_bool_lst_int_u32 x47 →
 IfB (decide ((k6 : Int) < (x47.2.length : Int)))
 ((0 : Int) <= i5 ∧ AtN a0 i5.toNat fun x56 =>
 WfT ks_bool_lst_int_u32 x56 →
 (0 : Int) <= k6 ∧ AtN x56.2 k6.toNat fun x60 =>
 WfT ks_int_u32 x60 →
 (0 : Int) <= i5 ∧ AtN b1 i5.toNat fun x64 =>
 WfT ks_bool_lst_int_u32 x64 →
 (0 : Int) <= k6 ∧ AtN x64.2 k6.toNat fun x68 =>
 WfT ks_int_u32 x68 →
 IfB (((x60.toNat : Int) : Int) != (x68.toNat : Int))
 (K false)
 (next9 ((IntKind.wrap .i64 (k6 + 1)), ())))
 (next4 ((IntKind.wrap .i64 (i5 + 1)), ()))
def ref19_Same_j0 (a0 : List (Bool × List UInt32)) (b1 : List (Bool × List UInt32)) (i5 : Int) (next4 : (Int × Unit) -> Prop) (j3 : Bool) (K : Bool -> Prop) : Prop :=
 IfB j3
 (K false)
 (LoopJ (Int × Unit) ((0 : Int), ()) fun y next =>
 WfY pl_ref19_Same_9.kinds y →
 ref19_Same_l9 a0 b1 i5 next4 y.1 next K)
def ref19_Same_l4 (a0 : List (Bool × List UInt32)) (b1 : List (Bool × List UInt32)) (i5 : Int) (next4 : (Int × Unit) -> Prop) (K : Bool -> Prop) : Prop :=
 IfB (decide ((i5 : Int) < (a0.length : Int)))
 ((0 : Int) <= i5 ∧ AtN a0 i5.toNat fun x20 =>
 WfT ks_bool_lst_int_u32 x20 →
 (0 : Int) <= i5 ∧ AtN b1 i5.toNat fun x25 =>
 WfT ks_bool_lst_int_u32 x25 →
 IfB (!(x20.1 == x25.1))
 (ref19_Same_j0 a0 b1 i5 next4 true K)
 ((0 : Int) <= i5 ∧ AtN a0 i5.toNat fun x32 =>
 WfT ks_bool_lst_int_u32 x32 →
 (0 : Int) <= i5 ∧ AtN b1 i5.toNat fun x38 =>
 WfT ks_bool_lst_int_u32 x38 →
 ref19_Same_j0 a0 b1 i5 next4 (((x32.2.length : Int) : Int) != (x38.2.length : Int)) K))
 (K true)
def ref19_Same_q (a0 : List (Bool × List UInt32)) (b1 : List (Bool × List UInt32)) (K : Bool -> Prop) : Prop :=
 IfB (((a0.length : Int) : Int) != (b1.length : Int))
 (K false)
 (LoopJ (Int × Unit) ((0 : Int), ()) fun y next =>
 WfY pl_ref19_Same_4.kinds y →
 ref19_Same_l4 a0 b1 y.1 next K)
noncomputable def tab_ref19_Same : Tab := ⟨[], []⟩
abbrev ref19_Same_L (x : PkTs ref19_Same_ps) (K : PkTs ref19_Same_rs -> Prop) : Prop := ref19_Same_q x.1 x.2.1 (fun r0 => K (r0, ()))
theorem ref19_Same_eq : ref19_Same_L = fun x K => PCode Try.prog tab_ref19_Same plan_ref19_Same (bodyOf Try.f46) (parS ref19_Same_ps x) (PRet Try.prog Try.f46.results.toList fun a st => outP ref19_Same_rs st a K) := by kernel_rfl
theorem ref19_Same_fq : FnQ Try.prog f_ref19_Same ref19_Same_ps ref19_Same_rs ref19_Same_L := (fnQ_of k_ref19_Same (tab := tab_ref19_Same) ⟨trivial, trivial⟩ rfl).of_eq ref19_Same_eq
noncomputable def ct_ref19_Same : Ct := ctRd ref19_Same_ps ref19_Same_rs ref19_Same_L
theorem ct_ref19_Same_ok : SoundCt Try.prog f_ref19_Same ct_ref19_Same := ctRd_sound ref19_Same_fq
def pl_ref20_Same_4 : PLoop := ⟨[(5, PK.int .i64)], [2, 3], []⟩
def pl_ref20_Same_9 : PLoop := ⟨[(6, PK.int .i64)], [2, 3], []⟩
def plan_ref20_Same : PPlan := ⟨[], [(4, pl_ref20_Same_4), (9, pl_ref20_Same_9)], [], [], [], []⟩
theorem k_ref20_Same : Known Try.prog f_ref20_Same Try.f17 plan_ref20_Same.plan (bodyOf Try.f17) := by refine ⟨Try.func17, ?_, ?_, ?_, ?_, ?_⟩ <;> kernel_rfl
abbrev ref20_Same_ps : List Pk := [Pk.agg [Kd.int .i64, Kd.lst [Kd.bool, Kd.lst [Kd.int .u32]], Kd.int .u32, Kd.bool, Kd.int .u32, Kd.bool, Kd.int .u32, Kd.bool, Kd.bool, Kd.int .u32, Kd.int .u32, Kd.lst [Kd.int .u32], Kd.lst [Kd.int .i64, Kd.lst [Kd.int .u8]]], Pk.agg [Kd.int .i64, Kd.lst [Kd.bool, Kd.lst [Kd.int .u32]], Kd.int .u32, Kd.bool, Kd.int .u32, Kd.bool, Kd.int .u32, Kd.bool, Kd.bool, Kd.int .u32, Kd.int .u32, Kd.lst [Kd.int .u32], Kd.lst [Kd.int .i64, Kd.lst [Kd.int .u8]]]]
abbrev ref20_Same_rs : List Pk := [Pk.bool]
def ref20_Same_j1 (a0 : TyL1) (b1 : TyL1) (i6 : Int) (next9 : (Int × Unit) -> Prop) (j27 : Bool) (K : Bool -> Prop) : Prop :=
 IfB j27
 (K false)
 (next9 ((IntKind.wrap .i64 (i6 + 1)), ()))
def ref20_Same_l9 (a0 : TyL1) (b1 : TyL1) (i6 : Int) (next9 : (Int × Unit) -> Prop) (K : Bool -> Prop) : Prop :=
 IfB (decide ((i6 : Int) < (a0.2.2.2.2.2.2.2.2.2.2.2.2.length : Int)))
 ((0 : Int) <= i6 ∧ AtN a0.2.2.2.2.2.2.2.2.2.2.2.2 i6.toNat fun x141 =>
 WfT ks_int_i64_lst_int_u8 x141 →
 (0 : Int) <= i6 ∧ AtN b1.2.2.2.2.2.2.2.2.2.2.2.2 i6.toNat fun x147 =>
 WfT ks_int_i64_lst_int_u8 x147 →
 IfB ((x141.1 : Int) != x147.1)
 (ref20_Same_j1 a0 b1 i6 next9 true K)
 ((0 : Int) <= i6 ∧ AtN a0.2.2.2.2.2.2.2.2.2.2.2.2 i6.toNat fun x155 =>
 WfT ks_int_i64_lst_int_u8 x155 →
 (0 : Int) <= i6 ∧ AtN b1.2.2.2.2.2.2.2.2.2.2.2.2 i6.toNat fun x162 =>
 WfT ks_int_i64_lst_int_u8 x162 →
 ref20_Same_j1 a0 b1 i6 next9 (!(x155.2 == x162.2)) K))
 (K true)
def ref20_Same_l4 (a0 : TyL1) (b1 : TyL1) (i5 : Int) (next4 : (Int × Unit) -> Prop) (K : Bool -> Prop) : Prop :=
 IfB (decide ((i5 : Int) < (a0.2.2.2.2.2.2.2.2.2.2.2.1.length : Int)))
 ((0 : Int) <= i5 ∧ AtN a0.2.2.2.2.2.2.2.2.2.2.2.1 i5.toNat fun x123 =>
 WfT ks_int_u32 x123 →
 (0 : Int) <= i5 ∧ AtN b1.2.2.2.2.2.2.2.2.2.2.2.1 i5.toNat fun x128 =>
 WfT ks_int_u32 x128 →
 IfB (((x123.toNat : Int) : Int) != (x128.toNat : Int))
 (K false)
 (next4 ((IntKind.wrap .i64 (i5 + 1)), ())))
 (LoopJ (Int × Unit) ((0 : Int), ()) fun y next =>
 WfY pl_ref20_Same_9.kinds y →
 ref20_Same_l9 a0 b1 y.1 next K)
def ref20_Same_j0 (a0 : TyL1) (b1 : TyL1) (j26 : Bool) (K : Bool -> Prop) : Prop :=
 IfB j26
 (K false)
 (LoopJ (Int × Unit) ((0 : Int), ()) fun y next =>
 WfY pl_ref20_Same_4.kinds y →
 ref20_Same_l4 a0 b1 y.1 next K)
def ref20_Same_q (a0 : TyL1) (b1 : TyL1) (K : Bool -> Prop) : Prop :=
 IfB ((a0.1 : Int) != b1.1)
 (ref20_Same_j0 a0 b1 true K)
 ((WfPs ref19_Same_ps (a0.2.1, b1.2.1, ()) →
 ref19_Same_q a0.2.1 b1.2.1 (fun x17 =>
 WfPs ref19_Same_rs (x17, ()) →
 IfB (!x17)
 (ref20_Same_j0 a0 b1 true K)
 (IfB (((a0.2.2.1.toNat : Int) : Int) != (b1.2.2.1.toNat : Int))
 (ref20_Same_j0 a0 b1 true K)
 (IfB (!(a0.2.2.2.1 == b1.2.2.2.1))
 (ref20_Same_j0 a0 b1 true K)
 (IfB a0.2.2.2.1
 (IfB (((a0.2.2.2.2.1.toNat : Int) : Int) != (b1.2.2.2.2.1.toNat : Int))
 (ref20_Same_j0 a0 b1 true K)
 (IfB (!(a0.2.2.2.2.2.1 == b1.2.2.2.2.2.1))
 (ref20_Same_j0 a0 b1 true K)
 (IfB a0.2.2.2.2.2.1
 (IfB (((a0.2.2.2.2.2.2.1.toNat : Int) : Int) != (b1.2.2.2.2.2.2.1.toNat : Int))
 (ref20_Same_j0 a0 b1 true K)
 (IfB (!(a0.2.2.2.2.2.2.2.1 == b1.2.2.2.2.2.2.2.1))
 (ref20_Same_j0 a0 b1 true K)
 (IfB (!(a0.2.2.2.2.2.2.2.2.1 == b1.2.2.2.2.2.2.2.2.1))
 (ref20_Same_j0 a0 b1 true K)
 (IfB a0.2.2.2.2.2.2.2.2.1
 (IfB (((a0.2.2.2.2.2.2.2.2.2.1.toNat : Int) : Int) != (b1.2.2.2.2.2.2.2.2.2.1.toNat : Int))
 (ref20_Same_j0 a0 b1 true K)
 (IfB (((a0.2.2.2.2.2.2.2.2.2.2.1.toNat : Int) : Int) != (b1.2.2.2.2.2.2.2.2.2.2.1.toNat : Int))
 (ref20_Same_j0 a0 b1 true K)
 (IfB (((a0.2.2.2.2.2.2.2.2.2.2.2.1.length : Int) : Int) != (b1.2.2.2.2.2.2.2.2.2.2.2.1.length : Int))
 (ref20_Same_j0 a0 b1 true K)
 (ref20_Same_j0 a0 b1 (((a0.2.2.2.2.2.2.2.2.2.2.2.2.length : Int) : Int) != (b1.2.2.2.2.2.2.2.2.2.2.2.2.length : Int)) K))))
 (IfB (((a0.2.2.2.2.2.2.2.2.2.2.2.1.length : Int) : Int) != (b1.2.2.2.2.2.2.2.2.2.2.2.1.length : Int))
 (ref20_Same_j0 a0 b1 true K)
 (ref20_Same_j0 a0 b1 (((a0.2.2.2.2.2.2.2.2.2.2.2.2.length : Int) : Int) != (b1.2.2.2.2.2.2.2.2.2.2.2.2.length : Int)) K))))))
 (IfB (!(a0.2.2.2.2.2.2.2.1 == b1.2.2.2.2.2.2.2.1))
 (ref20_Same_j0 a0 b1 true K)
 (IfB (!(a0.2.2.2.2.2.2.2.2.1 == b1.2.2.2.2.2.2.2.2.1))
 (ref20_Same_j0 a0 b1 true K)
 (IfB a0.2.2.2.2.2.2.2.2.1
 (IfB (((a0.2.2.2.2.2.2.2.2.2.1.toNat : Int) : Int) != (b1.2.2.2.2.2.2.2.2.2.1.toNat : Int))
 (ref20_Same_j0 a0 b1 true K)
 (IfB (((a0.2.2.2.2.2.2.2.2.2.2.1.toNat : Int) : Int) != (b1.2.2.2.2.2.2.2.2.2.2.1.toNat : Int))
 (ref20_Same_j0 a0 b1 true K)
 (IfB (((a0.2.2.2.2.2.2.2.2.2.2.2.1.length : Int) : Int) != (b1.2.2.2.2.2.2.2.2.2.2.2.1.length : Int))
 (ref20_Same_j0 a0 b1 true K)
 (ref20_Same_j0 a0 b1 (((a0.2.2.2.2.2.2.2.2.2.2.2.2.length : Int) : Int) != (b1.2.2.2.2.2.2.2.2.2.2.2.2.length : Int)) K))))
 (IfB (((a0.2.2.2.2.2.2.2.2.2.2.2.1.length : Int) : Int) != (b1.2.2.2.2.2.2.2.2.2.2.2.1.length : Int))
 (ref20_Same_j0 a0 b1 true K)
 (ref20_Same_j0 a0 b1 (((a0.2.2.2.2.2.2.2.2.2.2.2.2.length : Int) : Int) != (b1.2.2.2.2.2.2.2.2.2.2.2.2.length : Int)) K))))))))
 (IfB (!(a0.2.2.2.2.2.1 == b1.2.2.2.2.2.1))
 (ref20_Same_j0 a0 b1 true K)
 (IfB a0.2.2.2.2.2.1
 (IfB (((a0.2.2.2.2.2.2.1.toNat : Int) : Int) != (b1.2.2.2.2.2.2.1.toNat : Int))
 (ref20_Same_j0 a0 b1 true K)
 (IfB (!(a0.2.2.2.2.2.2.2.1 == b1.2.2.2.2.2.2.2.1))
 (ref20_Same_j0 a0 b1 true K)
 (IfB (!(a0.2.2.2.2.2.2.2.2.1 == b1.2.2.2.2.2.2.2.2.1))
 (ref20_Same_j0 a0 b1 true K)
 (IfB a0.2.2.2.2.2.2.2.2.1
 (IfB (((a0.2.2.2.2.2.2.2.2.2.1.toNat : Int) : Int) != (b1.2.2.2.2.2.2.2.2.2.1.toNat : Int))
 (ref20_Same_j0 a0 b1 true K)
 (IfB (((a0.2.2.2.2.2.2.2.2.2.2.1.toNat : Int) : Int) != (b1.2.2.2.2.2.2.2.2.2.2.1.toNat : Int))
 (ref20_Same_j0 a0 b1 true K)
 (IfB (((a0.2.2.2.2.2.2.2.2.2.2.2.1.length : Int) : Int) != (b1.2.2.2.2.2.2.2.2.2.2.2.1.length : Int))
 (ref20_Same_j0 a0 b1 true K)
 (ref20_Same_j0 a0 b1 (((a0.2.2.2.2.2.2.2.2.2.2.2.2.length : Int) : Int) != (b1.2.2.2.2.2.2.2.2.2.2.2.2.length : Int)) K))))
 (IfB (((a0.2.2.2.2.2.2.2.2.2.2.2.1.length : Int) : Int) != (b1.2.2.2.2.2.2.2.2.2.2.2.1.length : Int))
 (ref20_Same_j0 a0 b1 true K)
 (ref20_Same_j0 a0 b1 (((a0.2.2.2.2.2.2.2.2.2.2.2.2.length : Int) : Int) != (b1.2.2.2.2.2.2.2.2.2.2.2.2.length : Int)) K))))))
 (IfB (!(a0.2.2.2.2.2.2.2.1 == b1.2.2.2.2.2.2.2.1))
 (ref20_Same_j0 a0 b1 true K)
 (IfB (!(a0.2.2.2.2.2.2.2.2.1 == b1.2.2.2.2.2.2.2.2.1))
 (ref20_Same_j0 a0 b1 true K)
 (IfB a0.2.2.2.2.2.2.2.2.1
 (IfB (((a0.2.2.2.2.2.2.2.2.2.1.toNat : Int) : Int) != (b1.2.2.2.2.2.2.2.2.2.1.toNat : Int))
 (ref20_Same_j0 a0 b1 true K)
 (IfB (((a0.2.2.2.2.2.2.2.2.2.2.1.toNat : Int) : Int) != (b1.2.2.2.2.2.2.2.2.2.2.1.toNat : Int))
 (ref20_Same_j0 a0 b1 true K)
 (IfB (((a0.2.2.2.2.2.2.2.2.2.2.2.1.length : Int) : Int) != (b1.2.2.2.2.2.2.2.2.2.2.2.1.length : Int))
 (ref20_Same_j0 a0 b1 true K)
 (ref20_Same_j0 a0 b1 (((a0.2.2.2.2.2.2.2.2.2.2.2.2.length : Int) : Int) != (b1.2.2.2.2.2.2.2.2.2.2.2.2.length : Int)) K))))
 (IfB (((a0.2.2.2.2.2.2.2.2.2.2.2.1.length : Int) : Int) != (b1.2.2.2.2.2.2.2.2.2.2.2.1.length : Int))
 (ref20_Same_j0 a0 b1 true K)
 (ref20_Same_j0 a0 b1 (((a0.2.2.2.2.2.2.2.2.2.2.2.2.length : Int) : Int) != (b1.2.2.2.2.2.2.2.2.2.2.2.2.length : Int)) K)))))))))))))
noncomputable def tab_ref20_Same : Tab := ⟨[(f_ref19_Same, ct_ref19_Same)], []⟩
abbrev ref20_Same_L (x : PkTs ref20_Same_ps) (K : PkTs ref20_Same_rs -> Prop) : Prop := ref20_Same_q x.1 x.2.1 (fun r0 => K (r0, ()))
theorem ref20_Same_eq : ref20_Same_L = fun x K => PCode Try.prog tab_ref20_Same plan_ref20_Same (bodyOf Try.f17) (parS ref20_Same_ps x) (PRet Try.prog Try.f17.results.toList fun a st => outP ref20_Same_rs st a K) := by kernel_rfl
theorem ref20_Same_fq : FnQ Try.prog f_ref20_Same ref20_Same_ps ref20_Same_rs ref20_Same_L := (fnQ_of k_ref20_Same (tab := tab_ref20_Same) ⟨⟨ct_ref19_Same_ok, trivial⟩, trivial⟩ rfl).of_eq ref20_Same_eq
noncomputable def ct_ref20_Same : Ct := ctRd ref20_Same_ps ref20_Same_rs ref20_Same_L
theorem ct_ref20_Same_ok : SoundCt Try.prog f_ref20_Same ct_ref20_Same := ctRd_sound ref20_Same_fq
def plan_base_Bytes : PPlan := ⟨[], [], [], [], [], []⟩
theorem k_base_Bytes : Known Try.prog f_base_Bytes Try.f20 plan_base_Bytes.plan (bodyOf Try.f20) := by refine ⟨Try.func20, ?_, ?_, ?_, ?_, ?_⟩ <;> kernel_rfl
abbrev base_Bytes_ps : List Pk := [Pk.lst [Kd.int .u8]]
abbrev base_Bytes_rs : List Pk := [Pk.own T_uint8 [Kd.int .u8]]
def base_Bytes_q (b0 : List UInt8) (K : List UInt8 -> Prop) : Prop :=
 ([] : List UInt8).length + b0.length <= 140737488355232 ∧
 K (([] : List UInt8) ++ b0)
noncomputable def tab_base_Bytes : Tab := ⟨[], []⟩
abbrev base_Bytes_L (x : PkTs base_Bytes_ps) (K : PkTs base_Bytes_rs -> Prop) : Prop := base_Bytes_q x.1 (fun r0 => K (r0, ()))
theorem base_Bytes_eq : base_Bytes_L = fun x K => PCode Try.prog tab_base_Bytes plan_base_Bytes (bodyOf Try.f20) (parS base_Bytes_ps x) (PRet Try.prog Try.f20.results.toList fun a st => outP base_Bytes_rs st a K) := by kernel_rfl
theorem base_Bytes_fq : FnQ Try.prog f_base_Bytes base_Bytes_ps base_Bytes_rs base_Bytes_L := (fnQ_of k_base_Bytes (tab := tab_base_Bytes) ⟨trivial, trivial⟩ rfl).of_eq base_Bytes_eq
noncomputable def ct_base_Bytes : Ct := ctVal base_Bytes_ps base_Bytes_rs base_Bytes_L
theorem ct_base_Bytes_ok : SoundCt Try.prog f_base_Bytes ct_base_Bytes := ctVal_sound base_Bytes_fq
def plan_law20_AttrTwice : PPlan := ⟨[], [], [], [], [], []⟩
theorem k_law20_AttrTwice : Known Try.prog f_law20_AttrTwice Try.f7 plan_law20_AttrTwice.plan (bodyOf Try.f7) := by refine ⟨Try.func7, ?_, ?_, ?_, ?_, ?_⟩ <;> kernel_rfl
abbrev law20_AttrTwice_ps : List Pk := [Pk.lst [Kd.int .u8], Pk.bool, Pk.bool]
abbrev law20_AttrTwice_rs : List Pk := [Pk.bool]
def law20_AttrTwice_q (b0 : List UInt8) (four1 : Bool) (told2 : Bool) (K : Bool -> Prop) : Prop :=
 (WfPs law20_works_ps (()) →
 law20_works_q  (fun x13 =>
 WfPs law20_works_rs (x13, ()) →
 IfB (!x13)
 (K false)
 ((0 : Int) <= (min (b0.length : Int) 1500) ∧ (min (b0.length : Int) 1500) <= (b0.length : Int) ∧
 (WfPs attr_Read_ps ((b0.take ((min (b0.length : Int) 1500).toNat)), four1, told2, ()) →
 attr_Read_q (b0.take ((min (b0.length : Int) 1500).toNat)) four1 told2 (fun x24r0 x24r1 x24r2 =>
 WfPs attr_Read_rs (x24r0, x24r1, x24r2, ()) →
 (WfPs base_Bytes_ps ((b0.take ((min (b0.length : Int) 1500).toNat)), ()) →
 base_Bytes_q (b0.take ((min (b0.length : Int) 1500).toNat)) (fun x30 =>
 WfPs base_Bytes_rs (x30, ()) →
 x30.length + (b0.take ((min (b0.length : Int) 1500).toNat)).length <= 140737488355232 ∧
 (WfPs attr_Read_ps ((x30 ++ (b0.take ((min (b0.length : Int) 1500).toNat))), four1, told2, ()) →
 attr_Read_q (x30 ++ (b0.take ((min (b0.length : Int) 1500).toNat))) four1 told2 (fun x35r0 x35r1 x35r2 =>
 WfPs attr_Read_rs (x35r0, x35r1, x35r2, ()) →
 IfB (decide ((x24r1 : Int) > 1))
 (K true)
 ((WfPs ref20_Same_ps (((x24r0.1, x24r0.2.1, (ofI .u32 (x24r0.2.2.1.toNat : Int)), x24r0.2.2.2.1, (ofI .u32 (x24r0.2.2.2.2.1.toNat : Int)), x24r0.2.2.2.2.2.1, (ofI .u32 (x24r0.2.2.2.2.2.2.1.toNat : Int)), x24r0.2.2.2.2.2.2.2.1, x24r0.2.2.2.2.2.2.2.2.1, (ofI .u32 (x24r0.2.2.2.2.2.2.2.2.2.1.toNat : Int)), (ofI .u32 (x24r0.2.2.2.2.2.2.2.2.2.2.1.toNat : Int)), x24r0.2.2.2.2.2.2.2.2.2.2.2.1, x24r0.2.2.2.2.2.2.2.2.2.2.2.2) : TyL1), ((x35r0.1, x35r0.2.1, (ofI .u32 (x35r0.2.2.1.toNat : Int)), x35r0.2.2.2.1, (ofI .u32 (x35r0.2.2.2.2.1.toNat : Int)), x35r0.2.2.2.2.2.1, (ofI .u32 (x35r0.2.2.2.2.2.2.1.toNat : Int)), x35r0.2.2.2.2.2.2.2.1, x35r0.2.2.2.2.2.2.2.2.1, (ofI .u32 (x35r0.2.2.2.2.2.2.2.2.2.1.toNat : Int)), (ofI .u32 (x35r0.2.2.2.2.2.2.2.2.2.2.1.toNat : Int)), x35r0.2.2.2.2.2.2.2.2.2.2.2.1, x35r0.2.2.2.2.2.2.2.2.2.2.2.2) : TyL1), ()) →
 ref20_Same_q ((x24r0.1, x24r0.2.1, (ofI .u32 (x24r0.2.2.1.toNat : Int)), x24r0.2.2.2.1, (ofI .u32 (x24r0.2.2.2.2.1.toNat : Int)), x24r0.2.2.2.2.2.1, (ofI .u32 (x24r0.2.2.2.2.2.2.1.toNat : Int)), x24r0.2.2.2.2.2.2.2.1, x24r0.2.2.2.2.2.2.2.2.1, (ofI .u32 (x24r0.2.2.2.2.2.2.2.2.2.1.toNat : Int)), (ofI .u32 (x24r0.2.2.2.2.2.2.2.2.2.2.1.toNat : Int)), x24r0.2.2.2.2.2.2.2.2.2.2.2.1, x24r0.2.2.2.2.2.2.2.2.2.2.2.2) : TyL1) ((x35r0.1, x35r0.2.1, (ofI .u32 (x35r0.2.2.1.toNat : Int)), x35r0.2.2.2.1, (ofI .u32 (x35r0.2.2.2.2.1.toNat : Int)), x35r0.2.2.2.2.2.1, (ofI .u32 (x35r0.2.2.2.2.2.2.1.toNat : Int)), x35r0.2.2.2.2.2.2.2.1, x35r0.2.2.2.2.2.2.2.2.1, (ofI .u32 (x35r0.2.2.2.2.2.2.2.2.2.1.toNat : Int)), (ofI .u32 (x35r0.2.2.2.2.2.2.2.2.2.2.1.toNat : Int)), x35r0.2.2.2.2.2.2.2.2.2.2.2.1, x35r0.2.2.2.2.2.2.2.2.2.2.2.2) : TyL1) (fun x43 =>
 WfPs ref20_Same_rs (x43, ()) →
 IfB x43
 (K ((x35r1 : Int) == (max x24r1 (min 1 ((b0.take ((min (b0.length : Int) 1500).toNat)).length : Int)))))
 (K false)))))))))))))
noncomputable def tab_law20_AttrTwice : Tab := ⟨[(f_law20_works, ct_law20_works), (f_ref20_Same, ct_ref20_Same), (f_attr_Read, ct_attr_Read), (f_base_Bytes, ct_base_Bytes)], []⟩
abbrev law20_AttrTwice_L (x : PkTs law20_AttrTwice_ps) (K : PkTs law20_AttrTwice_rs -> Prop) : Prop := law20_AttrTwice_q x.1 x.2.1 x.2.2.1 (fun r0 => K (r0, ()))
theorem law20_AttrTwice_eq : law20_AttrTwice_L = fun x K => PCode Try.prog tab_law20_AttrTwice plan_law20_AttrTwice (bodyOf Try.f7) (parS law20_AttrTwice_ps x) (PRet Try.prog Try.f7.results.toList fun a st => outP law20_AttrTwice_rs st a K) := by kernel_rfl
theorem law20_AttrTwice_fq : FnQ Try.prog f_law20_AttrTwice law20_AttrTwice_ps law20_AttrTwice_rs law20_AttrTwice_L := (fnQ_of k_law20_AttrTwice (tab := tab_law20_AttrTwice) ⟨⟨ct_law20_works_ok, ct_ref20_Same_ok, ct_attr_Read_ok, ct_base_Bytes_ok, trivial⟩, trivial⟩ rfl).of_eq law20_AttrTwice_eq
end Go.Proofs.Ytinilfhnplfhoaa
