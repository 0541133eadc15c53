/-
  SOME FUNCTIONS OVER PLAIN DATA: printed by a program of ours over this translation.
-/
import Derived.Test.YtinilfhnplfhoaaNum
import Derived.Test.YtinilfhnplfhoaaRB
set_option linter.all false
set_option maxRecDepth 100000
set_option maxHeartbeats 4000000
namespace Go.Proofs.Ytinilfhnplfhoaa
open Go.Sh
abbrev TyL1 := Int × List (Bool × List UInt32) × UInt32 × Bool × UInt32 × Bool × UInt32 × Bool × Bool × UInt32 × UInt32 × List UInt32 × List (Int × List UInt8)
def pl_ref19_Same_4 : PLoop := ⟨[(5, PK.int .i64)], [0, 1], []⟩
def pl_ref19_Same_9 : PLoop := ⟨[(6, PK.int .i64)], [0, 1, 5], []⟩
def plan_ref19_Same : PPlan := ⟨[], [(4, pl_ref19_Same_4), (9, pl_ref19_Same_9)], [], [], [], []⟩
theorem k_ref19_Same : Known Try.prog f_ref19_Same Try.f46 plan_ref19_Same.plan (bodyOf Try.f46) := by refine ⟨Try.func46, ?_, ?_, ?_, ?_, ?_⟩ <;> kernel_rfl
abbrev ref19_Same_ps : List Pk := [Pk.lst [Kd.bool, Kd.lst [Kd.int .u32]], Pk.lst [Kd.bool, Kd.lst [Kd.int .u32]]]
abbrev ref19_Same_rs : List Pk := [Pk.bool]
def ref19_Same_l9 (a0 : List (Bool × List UInt32)) (b1 : List (Bool × List UInt32)) (i5 : Int) (next4 : (Int × Unit) -> Prop) (k6 : Int) (next9 : (Int × Unit) -> Prop) (K : Bool -> Prop) : Prop :=
 (0 : Int) <= i5 ∧ AtN a0 i5.toNat fun x47 =>
 WfT ks_bool_lst_int_u32 x47 →
 IfB (decide ((k6 : Int) < (x47.2.length : Int)))
 ((0 : Int) <= i5 ∧ AtN a0 i5.toNat fun x56 =>
 WfT ks_bool_lst_int_u32 x56 →
 (0 : Int) <= k6 ∧ AtN x56.2 k6.toNat fun x60 =>
 WfT ks_int_u32 x60 →
 (0 : Int) <= i5 ∧ AtN b1 i5.toNat fun x64 =>
 WfT ks_bool_lst_int_u32 x64 →
 (0 : Int) <= k6 ∧ AtN x64.2 k6.toNat fun x68 =>
 WfT ks_int_u32 x68 →
 IfB (((x60.toNat : Int) : Int) != (x68.toNat : Int))
 (K false)
 (next9 ((IntKind.wrap .i64 (k6 + 1)), ())))
 (next4 ((IntKind.wrap .i64 (i5 + 1)), ()))
def ref19_Same_j0 (a0 : List (Bool × List UInt32)) (b1 : List (Bool × List UInt32)) (i5 : Int) (next4 : (Int × Unit) -> Prop) (j3 : Bool) (K : Bool -> Prop) : Prop :=
 IfB j3
 (K false)
 (LoopJ (Int × Unit) ((0 : Int), ()) fun y next =>
 WfY pl_ref19_Same_9.kinds y →
 ref19_Same_l9 a0 b1 i5 next4 y.1 next K)
def ref19_Same_l4 (a0 : List (Bool × List UInt32)) (b1 : List (Bool × List UInt32)) (i5 : Int) (next4 : (Int × Unit) -> Prop) (K : Bool -> Prop) : Prop :=
 IfB (decide ((i5 : Int) < (a0.length : Int)))
 ((0 : Int) <= i5 ∧ AtN a0 i5.toNat fun x20 =>
 WfT ks_bool_lst_int_u32 x20 →
 (0 : Int) <= i5 ∧ AtN b1 i5.toNat fun x25 =>
 WfT ks_bool_lst_int_u32 x25 →
 IfB (!(x20.1 == x25.1))
 (ref19_Same_j0 a0 b1 i5 next4 true K)
 ((0 : Int) <= i5 ∧ AtN a0 i5.toNat fun x32 =>
 WfT ks_bool_lst_int_u32 x32 →
 (0 : Int) <= i5 ∧ AtN b1 i5.toNat fun x38 =>
 WfT ks_bool_lst_int_u32 x38 →
 ref19_Same_j0 a0 b1 i5 next4 (((x32.2.length : Int) : Int) != (x38.2.length : Int)) K))
 (K true)
def ref19_Same_q (a0 : List (Bool × List UInt32)) (b1 : List (Bool × List UInt32)) (K : Bool -> Prop) : Prop :=
 IfB (((a0.length : Int) : Int) != (b1.length : Int))
 (K false)
 (LoopJ (Int × Unit) ((0 : Int), ()) fun y next =>
 WfY pl_ref19_Same_4.kinds y →
 ref19_Same_l4 a0 b1 y.1 next K)
noncomputable def tab_ref19_Same : Tab := ⟨[], []⟩
abbrev ref19_Same_L (x : PkTs ref19_Same_ps) (K : PkTs ref19_Same_rs -> Prop) : Prop := ref19_Same_q x.1 x.2.1 (fun r0 => K (r0, ()))
theorem ref19_Same_eq : ref19_Same_L = fun x K => PCode Try.prog tab_ref19_Same plan_ref19_Same (bodyOf Try.f46) (parS ref19_Same_ps x) (PRet Try.prog Try.f46.results.toList fun a st => outP ref19_Same_rs st a K) := by kernel_rfl
theorem ref19_Same_fq : FnQ Try.prog f_ref19_Same ref19_Same_ps ref19_Same_rs ref19_Same_L := (fnQ_of k_ref19_Same (tab := tab_ref19_Same) ⟨trivial, trivial⟩ rfl).of_eq ref19_Same_eq
noncomputable def ct_ref19_Same : Ct := ctRd ref19_Same_ps ref19_Same_rs ref19_Same_L
theorem ct_ref19_Same_ok : SoundCt Try.prog f_ref19_Same ct_ref19_Same := ctRd_sound ref19_Same_fq
def pl_ref20_Same_4 : PLoop := ⟨[(5, PK.int .i64)], [2, 3], []⟩
def pl_ref20_Same_9 : PLoop := ⟨[(6, PK.int .i64)], [2, 3], []⟩
def plan_ref20_Same : PPlan := ⟨[], [(4, pl_ref20_Same_4), (9, pl_ref20_Same_9)], [], [], [], []⟩
theorem k_ref20_Same : Known Try.prog f_ref20_Same Try.f17 plan_ref20_Same.plan (bodyOf Try.f17) := by refine ⟨Try.func17, ?_, ?_, ?_, ?_, ?_⟩ <;> kernel_rfl
abbrev ref20_Same_ps : List Pk := [Pk.agg [Kd.int .i64, Kd.lst [Kd.bool, Kd.lst [Kd.int .u32]], Kd.int .u32, Kd.bool, Kd.int .u32, Kd.bool, Kd.int .u32, Kd.bool, Kd.bool, Kd.int .u32, Kd.int .u32, Kd.lst [Kd.int .u32], Kd.lst [Kd.int .i64, Kd.lst [Kd.int .u8]]], Pk.agg [Kd.int .i64, Kd.lst [Kd.bool, Kd.lst [Kd.int .u32]], Kd.int .u32, Kd.bool, Kd.int .u32, Kd.bool, Kd.int .u32, Kd.bool, Kd.bool, Kd.int .u32, Kd.int .u32, Kd.lst [Kd.int .u32], Kd.lst [Kd.int .i64, Kd.lst [Kd.int .u8]]]]
abbrev ref20_Same_rs : List Pk := [Pk.bool]
def ref20_Same_j1 (a0 : TyL1) (b1 : TyL1) (i6 : Int) (next9 : (Int × Unit) -> Prop) (j27 : Bool) (K : Bool -> Prop) : Prop :=
 IfB j27
 (K false)
 (next9 ((IntKind.wrap .i64 (i6 + 1)), ()))
def ref20_Same_l9 (a0 : TyL1) (b1 : TyL1) (i6 : Int) (next9 : (Int × Unit) -> Prop) (K : Bool -> Prop) : Prop :=
 IfB (decide ((i6 : Int) < (a0.2.2.2.2.2.2.2.2.2.2.2.2.length : Int)))
 ((0 : Int) <= i6 ∧ AtN a0.2.2.2.2.2.2.2.2.2.2.2.2 i6.toNat fun x141 =>
 WfT ks_int_i64_lst_int_u8 x141 →
 (0 : Int) <= i6 ∧ AtN b1.2.2.2.2.2.2.2.2.2.2.2.2 i6.toNat fun x147 =>
 WfT ks_int_i64_lst_int_u8 x147 →
 IfB ((x141.1 : Int) != x147.1)
 (ref20_Same_j1 a0 b1 i6 next9 true K)
 ((0 : Int) <= i6 ∧ AtN a0.2.2.2.2.2.2.2.2.2.2.2.2 i6.toNat fun x155 =>
 WfT ks_int_i64_lst_int_u8 x155 →
 (0 : Int) <= i6 ∧ AtN b1.2.2.2.2.2.2.2.2.2.2.2.2 i6.toNat fun x162 =>
 WfT ks_int_i64_lst_int_u8 x162 →
 ref20_Same_j1 a0 b1 i6 next9 (!(x155.2 == x162.2)) K))
 (K true)
def ref20_Same_l4 (a0 : TyL1) (b1 : TyL1) (i5 : Int) (next4 : (Int × Unit) -> Prop) (K : Bool -> Prop) : Prop :=
 IfB (decide ((i5 : Int) < (a0.2.2.2.2.2.2.2.2.2.2.2.1.length : Int)))
 ((0 : Int) <= i5 ∧ AtN a0.2.2.2.2.2.2.2.2.2.2.2.1 i5.toNat fun x123 =>
 WfT ks_int_u32 x123 →
 (0 : Int) <= i5 ∧ AtN b1.2.2.2.2.2.2.2.2.2.2.2.1 i5.toNat fun x128 =>
 WfT ks_int_u32 x128 →
 IfB (((x123.toNat : Int) : Int) != (x128.toNat : Int))
 (K false)
 (next4 ((IntKind.wrap .i64 (i5 + 1)), ())))
 (LoopJ (Int × Unit) ((0 : Int), ()) fun y next =>
 WfY pl_ref20_Same_9.kinds y →
 ref20_Same_l9 a0 b1 y.1 next K)
def ref20_Same_j0 (a0 : TyL1) (b1 : TyL1) (j26 : Bool) (K : Bool -> Prop) : Prop :=
 IfB j26
 (K false)
 (LoopJ (Int × Unit) ((0 : Int), ()) fun y next =>
 WfY pl_ref20_Same_4.kinds y →
 ref20_Same_l4 a0 b1 y.1 next K)
def ref20_Same_q (a0 : TyL1) (b1 : TyL1) (K : Bool -> Prop) : Prop :=
 IfB ((a0.1 : Int) != b1.1)
 (ref20_Same_j0 a0 b1 true K)
 ((WfPs ref19_Same_ps (a0.2.1, b1.2.1, ()) →
 ref19_Same_q a0.2.1 b1.2.1 (fun x17 =>
 WfPs ref19_Same_rs (x17, ()) →
 IfB (!x17)
 (ref20_Same_j0 a0 b1 true K)
 (IfB (((a0.2.2.1.toNat : Int) : Int) != (b1.2.2.1.toNat : Int))
 (ref20_Same_j0 a0 b1 true K)
 (IfB (!(a0.2.2.2.1 == b1.2.2.2.1))
 (ref20_Same_j0 a0 b1 true K)
 (IfB a0.2.2.2.1
 (IfB (((a0.2.2.2.2.1.toNat : Int) : Int) != (b1.2.2.2.2.1.toNat : Int))
 (ref20_Same_j0 a0 b1 true K)
 (IfB (!(a0.2.2.2.2.2.1 == b1.2.2.2.2.2.1))
 (ref20_Same_j0 a0 b1 true K)
 (IfB a0.2.2.2.2.2.1
 (IfB (((a0.2.2.2.2.2.2.1.toNat : Int) : Int) != (b1.2.2.2.2.2.2.1.toNat : Int))
 (ref20_Same_j0 a0 b1 true K)
 (IfB (!(a0.2.2.2.2.2.2.2.1 == b1.2.2.2.2.2.2.2.1))
 (ref20_Same_j0 a0 b1 true K)
 (IfB (!(a0.2.2.2.2.2.2.2.2.1 == b1.2.2.2.2.2.2.2.2.1))
 (ref20_Same_j0 a0 b1 true K)
 (IfB a0.2.2.2.2.2.2.2.2.1
 (IfB (((a0.2.2.2.2.2.2.2.2.2.1.toNat : Int) : Int) != (b1.2.2.2.2.2.2.2.2.2.1.toNat : Int))
 (ref20_Same_j0 a0 b1 true K)
 (IfB (((a0.2.2.2.2.2.2.2.2.2.2.1.toNat : Int) : Int) != (b1.2.2.2.2.2.2.2.2.2.2.1.toNat : Int))
 (ref20_Same_j0 a0 b1 true K)
 (IfB (((a0.2.2.2.2.2.2.2.2.2.2.2.1.length : Int) : Int) != (b1.2.2.2.2.2.2.2.2.2.2.2.1.length : Int))
 (ref20_Same_j0 a0 b1 true K)
 (ref20_Same_j0 a0 b1 (((a0.2.2.2.2.2.2.2.2.2.2.2.2.length : Int) : Int) != (b1.2.2.2.2.2.2.2.2.2.2.2.2.length : Int)) K))))
 (IfB (((a0.2.2.2.2.2.2.2.2.2.2.2.1.length : Int) : Int) != (b1.2.2.2.2.2.2.2.2.2.2.2.1.length : Int))
 (ref20_Same_j0 a0 b1 true K)
 (ref20_Same_j0 a0 b1 (((a0.2.2.2.2.2.2.2.2.2.2.2.2.length : Int) : Int) != (b1.2.2.2.2.2.2.2.2.2.2.2.2.length : Int)) K))))))
 (IfB (!(a0.2.2.2.2.2.2.2.1 == b1.2.2.2.2.2.2.2.1))
 (ref20_Same_j0 a0 b1 true K)
 (IfB (!(a0.2.2.2.2.2.2.2.2.1 == b1.2.2.2.2.2.2.2.2.1))
 (ref20_Same_j0 a0 b1 true K)
 (IfB a0.2.2.2.2.2.2.2.2.1
 (IfB (((a0.2.2.2.2.2.2.2.2.2.1.toNat : Int) : Int) != (b1.2.2.2.2.2.2.2.2.2.1.toNat : Int))
 (ref20_Same_j0 a0 b1 true K)
 (IfB (((a0.2.2.2.2.2.2.2.2.2.2.1.toNat : Int) : Int) != (b1.2.2.2.2.2.2.2.2.2.2.1.toNat : Int))
 (ref20_Same_j0 a0 b1 true K)
 (IfB (((a0.2.2.2.2.2.2.2.2.2.2.2.1.length : Int) : Int) != (b1.2.2.2.2.2.2.2.2.2.2.2.1.length : Int))
 (ref20_Same_j0 a0 b1 true K)
 (ref20_Same_j0 a0 b1 (((a0.2.2.2.2.2.2.2.2.2.2.2.2.length : Int) : Int) != (b1.2.2.2.2.2.2.2.2.2.2.2.2.length : Int)) K))))
 (IfB (((a0.2.2.2.2.2.2.2.2.2.2.2.1.length : Int) : Int) != (b1.2.2.2.2.2.2.2.2.2.2.2.1.length : Int))
 (ref20_Same_j0 a0 b1 true K)
 (ref20_Same_j0 a0 b1 (((a0.2.2.2.2.2.2.2.2.2.2.2.2.length : Int) : Int) != (b1.2.2.2.2.2.2.2.2.2.2.2.2.length : Int)) K))))))))
 (IfB (!(a0.2.2.2.2.2.1 == b1.2.2.2.2.2.1))
 (ref20_Same_j0 a0 b1 true K)
 (IfB a0.2.2.2.2.2.1
 (IfB (((a0.2.2.2.2.2.2.1.toNat : Int) : Int) != (b1.2.2.2.2.2.2.1.toNat : Int))
 (ref20_Same_j0 a0 b1 true K)
 (IfB (!(a0.2.2.2.2.2.2.2.1 == b1.2.2.2.2.2.2.2.1))
 (ref20_Same_j0 a0 b1 true K)
 (IfB (!(a0.2.2.2.2.2.2.2.2.1 == b1.2.2.2.2.2.2.2.2.1))
 (ref20_Same_j0 a0 b1 true K)
 (IfB a0.2.2.2.2.2.2.2.2.1
 (IfB (((a0.2.2.2.2.2.2.2.2.2.1.toNat : Int) : Int) != (b1.2.2.2.2.2.2.2.2.2.1.toNat : Int))
 (ref20_Same_j0 a0 b1 true K)
 (IfB (((a0.2.2.2.2.2.2.2.2.2.2.1.toNat : Int) : Int) != (b1.2.2.2.2.2.2.2.2.2.2.1.toNat : Int))
 (ref20_Same_j0 a0 b1 true K)
 (IfB (((a0.2.2.2.2.2.2.2.2.2.2.2.1.length : Int) : Int) != (b1.2.2.2.2.2.2.2.2.2.2.2.1.length : Int))
 (ref20_Same_j0 a0 b1 true K)
 (ref20_Same_j0 a0 b1 (((a0.2.2.2.2.2.2.2.2.2.2.2.2.length : Int) : Int) != (b1.2.2.2.2.2.2.2.2.2.2.2.2.length : Int)) K))))
 (IfB (((a0.2.2.2.2.2.2.2.2.2.2.2.1.length : Int) : Int) != (b1.2.2.2.2.2.2.2.2.2.2.2.1.length : Int))
 (ref20_Same_j0 a0 b1 true K)
 (ref20_Same_j0 a0 b1 (((a0.2.2.2.2.2.2.2.2.2.2.2.2.length : Int) : Int) != (b1.2.2.2.2.2.2.2.2.2.2.2.2.length : Int)) K))))))
 (IfB (!(a0.2.2.2.2.2.2.2.1 == b1.2.2.2.2.2.2.2.1))
 (ref20_Same_j0 a0 b1 true K)
 (IfB (!(a0.2.2.2.2.2.2.2.2.1 == b1.2.2.2.2.2.2.2.2.1))
 (ref20_Same_j0 a0 b1 true K)
 (IfB a0.2.2.2.2.2.2.2.2.1
 (IfB (((a0.2.2.2.2.2.2.2.2.2.1.toNat : Int) : Int) != (b1.2.2.2.2.2.2.2.2.2.1.toNat : Int))
 (ref20_Same_j0 a0 b1 true K)
 (IfB (((a0.2.2.2.2.2.2.2.2.2.2.1.toNat : Int) : Int) != (b1.2.2.2.2.2.2.2.2.2.2.1.toNat : Int))
 (ref20_Same_j0 a0 b1 true K)
 (IfB (((a0.2.2.2.2.2.2.2.2.2.2.2.1.length : Int) : Int) != (b1.2.2.2.2.2.2.2.2.2.2.2.1.length : Int))
 (ref20_Same_j0 a0 b1 true K)
 (ref20_Same_j0 a0 b1 (((a0.2.2.2.2.2.2.2.2.2.2.2.2.length : Int) : Int) != (b1.2.2.2.2.2.2.2.2.2.2.2.2.length : Int)) K))))
 (IfB (((a0.2.2.2.2.2.2.2.2.2.2.2.1.length : Int) : Int) != (b1.2.2.2.2.2.2.2.2.2.2.2.1.length : Int))
 (ref20_Same_j0 a0 b1 true K)
 (ref20_Same_j0 a0 b1 (((a0.2.2.2.2.2.2.2.2.2.2.2.2.length : Int) : Int) != (b1.2.2.2.2.2.2.2.2.2.2.2.2.length : Int)) K)))))))))))))
noncomputable def tab_ref20_Same : Tab := ⟨[(f_ref19_Same, ct_ref19_Same)], []⟩
abbrev ref20_Same_L (x : PkTs ref20_Same_ps) (K : PkTs ref20_Same_rs -> Prop) : Prop := ref20_Same_q x.1 x.2.1 (fun r0 => K (r0, ()))
theorem ref20_Same_eq : ref20_Same_L = fun x K => PCode Try.prog tab_ref20_Same plan_ref20_Same (bodyOf Try.f17) (parS ref20_Same_ps x) (PRet Try.prog Try.f17.results.toList fun a st => outP ref20_Same_rs st a K) := by kernel_rfl
theorem ref20_Same_fq : FnQ Try.prog f_ref20_Same ref20_Same_ps ref20_Same_rs ref20_Same_L := (fnQ_of k_ref20_Same (tab := tab_ref20_Same) ⟨⟨ct_ref19_Same_ok, trivial⟩, trivial⟩ rfl).of_eq ref20_Same_eq
noncomputable def ct_ref20_Same : Ct := ctRd ref20_Same_ps ref20_Same_rs ref20_Same_L
theorem ct_ref20_Same_ok : SoundCt Try.prog f_ref20_Same ct_ref20_Same := ctRd_sound ref20_Same_fq
def pl_law20_great_2 : PLoop := ⟨[(3, PK.int .i64)], [0], []⟩
def pl_law20_great_5 : PLoop := ⟨[(4, PK.int .i64)], [0, 3], []⟩
def plan_law20_great : PPlan := ⟨[], [(2, pl_law20_great_2), (5, pl_law20_great_5)], [], [], [], []⟩
theorem k_law20_great : Known Try.prog f_law20_great Try.f19 plan_law20_great.plan (bodyOf Try.f19) := by refine ⟨Try.func19, ?_, ?_, ?_, ?_, ?_⟩ <;> kernel_rfl
abbrev law20_great_ps : List Pk := [Pk.lst [Kd.bool, Kd.lst [Kd.int .u32]]]
abbrev law20_great_rs : List Pk := [Pk.bool]
def law20_great_l5 (p0 : List (Bool × List UInt32)) (i3 : Int) (next2 : (Int × Unit) -> Prop) (k4 : Int) (next5 : (Int × Unit) -> Prop) (K : Bool -> Prop) : Prop :=
 (0 : Int) <= i3 ∧ AtN p0 i3.toNat fun x14 =>
 WfT ks_bool_lst_int_u32 x14 →
 IfB (decide ((k4 : Int) < (x14.2.length : Int)))
 ((0 : Int) <= i3 ∧ AtN p0 i3.toNat fun x23 =>
 WfT ks_bool_lst_int_u32 x23 →
 (0 : Int) <= k4 ∧ AtN x23.2 k4.toNat fun x27 =>
 WfT ks_int_u32 x27 →
 IfB (decide (((x27.toNat : Int) : Int) > 65535))
 (K true)
 (next5 ((IntKind.wrap .i64 (k4 + 1)), ())))
 (next2 ((IntKind.wrap .i64 (i3 + 1)), ()))
def law20_great_l2 (p0 : List (Bool × List UInt32)) (i3 : Int) (next2 : (Int × Unit) -> Prop) (K : Bool -> Prop) : Prop :=
 IfB (decide ((i3 : Int) < (p0.length : Int)))
 (LoopJ (Int × Unit) ((0 : Int), ()) fun y next =>
 WfY pl_law20_great_5.kinds y →
 law20_great_l5 p0 i3 next2 y.1 next K)
 (K false)
def law20_great_q (p0 : List (Bool × List UInt32)) (K : Bool -> Prop) : Prop :=
 LoopJ (Int × Unit) ((0 : Int), ()) fun y next =>
 WfY pl_law20_great_2.kinds y →
 law20_great_l2 p0 y.1 next K
noncomputable def tab_law20_great : Tab := ⟨[], []⟩
abbrev law20_great_L (x : PkTs law20_great_ps) (K : PkTs law20_great_rs -> Prop) : Prop := law20_great_q x.1 (fun r0 => K (r0, ()))
theorem law20_great_eq : law20_great_L = fun x K => PCode Try.prog tab_law20_great plan_law20_great (bodyOf Try.f19) (parS law20_great_ps x) (PRet Try.prog Try.f19.results.toList fun a st => outP law20_great_rs st a K) := by kernel_rfl
theorem law20_great_fq : FnQ Try.prog f_law20_great law20_great_ps law20_great_rs law20_great_L := (fnQ_of k_law20_great (tab := tab_law20_great) ⟨trivial, trivial⟩ rfl).of_eq law20_great_eq
noncomputable def ct_law20_great : Ct := ctRd law20_great_ps law20_great_rs law20_great_L
theorem ct_law20_great_ok : SoundCt Try.prog f_law20_great ct_law20_great := ctRd_sound law20_great_fq
def plan_law20_AttrBack : PPlan := ⟨[], [], [], [], [], []⟩
theorem k_law20_AttrBack : Known Try.prog f_law20_AttrBack Try.f5 plan_law20_AttrBack.plan (bodyOf Try.f5) := by refine ⟨Try.func5, ?_, ?_, ?_, ?_, ?_⟩ <;> kernel_rfl
abbrev law20_AttrBack_ps : List Pk := [Pk.agg [Kd.int .i64, Kd.lst [Kd.bool, Kd.lst [Kd.int .u32]], Kd.int .u32, Kd.bool, Kd.int .u32, Kd.bool, Kd.int .u32, Kd.bool, Kd.bool, Kd.int .u32, Kd.int .u32, Kd.lst [Kd.int .u32], Kd.lst [Kd.int .i64, Kd.lst [Kd.int .u8]]], Pk.bool]
abbrev law20_AttrBack_rs : List Pk := [Pk.bool]
def law20_AttrBack_j1 (x13 : TyL1) (x29r0 : TyL1) (x29r1 : Int) (K : Bool -> Prop) : Prop :=
 IfB ((x29r1 : Int) == 0)
 ((WfPs ref20_Same_ps (((x13.1, x13.2.1, (ofI .u32 (x13.2.2.1.toNat : Int)), x13.2.2.2.1, (ofI .u32 (x13.2.2.2.2.1.toNat : Int)), false, (ofI .u32 (x13.2.2.2.2.2.2.1.toNat : Int)), x13.2.2.2.2.2.2.2.1, x13.2.2.2.2.2.2.2.2.1, (ofI .u32 (x13.2.2.2.2.2.2.2.2.2.1.toNat : Int)), (ofI .u32 (x13.2.2.2.2.2.2.2.2.2.2.1.toNat : Int)), x13.2.2.2.2.2.2.2.2.2.2.2.1, x13.2.2.2.2.2.2.2.2.2.2.2.2) : TyL1), ((x29r0.1, x29r0.2.1, (ofI .u32 (x29r0.2.2.1.toNat : Int)), x29r0.2.2.2.1, (ofI .u32 (x29r0.2.2.2.2.1.toNat : Int)), x29r0.2.2.2.2.2.1, (ofI .u32 (x29r0.2.2.2.2.2.2.1.toNat : Int)), x29r0.2.2.2.2.2.2.2.1, x29r0.2.2.2.2.2.2.2.2.1, (ofI .u32 (x29r0.2.2.2.2.2.2.2.2.2.1.toNat : Int)), (ofI .u32 (x29r0.2.2.2.2.2.2.2.2.2.2.1.toNat : Int)), x29r0.2.2.2.2.2.2.2.2.2.2.2.1, x29r0.2.2.2.2.2.2.2.2.2.2.2.2) : TyL1), ()) →
 ref20_Same_q ((x13.1, x13.2.1, (ofI .u32 (x13.2.2.1.toNat : Int)), x13.2.2.2.1, (ofI .u32 (x13.2.2.2.2.1.toNat : Int)), false, (ofI .u32 (x13.2.2.2.2.2.2.1.toNat : Int)), x13.2.2.2.2.2.2.2.1, x13.2.2.2.2.2.2.2.2.1, (ofI .u32 (x13.2.2.2.2.2.2.2.2.2.1.toNat : Int)), (ofI .u32 (x13.2.2.2.2.2.2.2.2.2.2.1.toNat : Int)), x13.2.2.2.2.2.2.2.2.2.2.2.1, x13.2.2.2.2.2.2.2.2.2.2.2.2) : TyL1) ((x29r0.1, x29r0.2.1, (ofI .u32 (x29r0.2.2.1.toNat : Int)), x29r0.2.2.2.1, (ofI .u32 (x29r0.2.2.2.2.1.toNat : Int)), x29r0.2.2.2.2.2.1, (ofI .u32 (x29r0.2.2.2.2.2.2.1.toNat : Int)), x29r0.2.2.2.2.2.2.2.1, x29r0.2.2.2.2.2.2.2.2.1, (ofI .u32 (x29r0.2.2.2.2.2.2.2.2.2.1.toNat : Int)), (ofI .u32 (x29r0.2.2.2.2.2.2.2.2.2.2.1.toNat : Int)), x29r0.2.2.2.2.2.2.2.2.2.2.2.1, x29r0.2.2.2.2.2.2.2.2.2.2.2.2) : TyL1) (fun x62 =>
 WfPs ref20_Same_rs (x62, ()) →
 K x62)))
 (K false)
def law20_AttrBack_j0 (x13 : TyL1) (x29r0 : TyL1) (x29r1 : Int) (j27 : Bool) (K : Bool -> Prop) : Prop :=
 IfB j27
 (K ((x29r1 : Int) == 0))
 (law20_AttrBack_j1 x13 x29r0 x29r1 K)
def law20_AttrBack_q (a0 : TyL1) (four1 : Bool) (K : Bool -> Prop) : Prop :=
 (WfPs law20_works_ps (()) →
 law20_works_q  (fun x10 =>
 WfPs law20_works_rs (x10, ()) →
 IfB (!x10)
 (K false)
 ((WfPs law20_few_ps (((a0.1, a0.2.1, (ofI .u32 (a0.2.2.1.toNat : Int)), a0.2.2.2.1, (ofI .u32 (a0.2.2.2.2.1.toNat : Int)), a0.2.2.2.2.2.1, (ofI .u32 (a0.2.2.2.2.2.2.1.toNat : Int)), a0.2.2.2.2.2.2.2.1, a0.2.2.2.2.2.2.2.2.1, (ofI .u32 (a0.2.2.2.2.2.2.2.2.2.1.toNat : Int)), (ofI .u32 (a0.2.2.2.2.2.2.2.2.2.2.1.toNat : Int)), a0.2.2.2.2.2.2.2.2.2.2.2.1, a0.2.2.2.2.2.2.2.2.2.2.2.2) : TyL1), ()) →
 law20_few_q ((a0.1, a0.2.1, (ofI .u32 (a0.2.2.1.toNat : Int)), a0.2.2.2.1, (ofI .u32 (a0.2.2.2.2.1.toNat : Int)), a0.2.2.2.2.2.1, (ofI .u32 (a0.2.2.2.2.2.2.1.toNat : Int)), a0.2.2.2.2.2.2.2.1, a0.2.2.2.2.2.2.2.2.1, (ofI .u32 (a0.2.2.2.2.2.2.2.2.2.1.toNat : Int)), (ofI .u32 (a0.2.2.2.2.2.2.2.2.2.2.1.toNat : Int)), a0.2.2.2.2.2.2.2.2.2.2.2.1, a0.2.2.2.2.2.2.2.2.2.2.2.2) : TyL1) (fun x13 =>
 WfPs law20_few_rs (x13, ()) →
 (WfPs law20_few_ps (((x13.1, x13.2.1, (ofI .u32 (x13.2.2.1.toNat : Int)), x13.2.2.2.1, (ofI .u32 (x13.2.2.2.2.1.toNat : Int)), x13.2.2.2.2.2.1, (ofI .u32 (x13.2.2.2.2.2.2.1.toNat : Int)), x13.2.2.2.2.2.2.2.1, x13.2.2.2.2.2.2.2.2.1, (ofI .u32 (x13.2.2.2.2.2.2.2.2.2.1.toNat : Int)), (ofI .u32 (x13.2.2.2.2.2.2.2.2.2.2.1.toNat : Int)), x13.2.2.2.2.2.2.2.2.2.2.2.1, x13.2.2.2.2.2.2.2.2.2.2.2.2) : TyL1), ()) →
 law20_few_q ((x13.1, x13.2.1, (ofI .u32 (x13.2.2.1.toNat : Int)), x13.2.2.2.1, (ofI .u32 (x13.2.2.2.2.1.toNat : Int)), x13.2.2.2.2.2.1, (ofI .u32 (x13.2.2.2.2.2.2.1.toNat : Int)), x13.2.2.2.2.2.2.2.1, x13.2.2.2.2.2.2.2.2.1, (ofI .u32 (x13.2.2.2.2.2.2.2.2.2.1.toNat : Int)), (ofI .u32 (x13.2.2.2.2.2.2.2.2.2.2.1.toNat : Int)), x13.2.2.2.2.2.2.2.2.2.2.2.1, x13.2.2.2.2.2.2.2.2.2.2.2.2) : TyL1) (fun x16 =>
 WfPs law20_few_rs (x16, ()) →
 (WfPs attr_Put_ps (((x16.1, x16.2.1, (ofI .u32 (x16.2.2.1.toNat : Int)), x16.2.2.2.1, (ofI .u32 (x16.2.2.2.2.1.toNat : Int)), x16.2.2.2.2.2.1, (ofI .u32 (x16.2.2.2.2.2.2.1.toNat : Int)), x16.2.2.2.2.2.2.2.1, x16.2.2.2.2.2.2.2.2.1, (ofI .u32 (x16.2.2.2.2.2.2.2.2.2.1.toNat : Int)), (ofI .u32 (x16.2.2.2.2.2.2.2.2.2.2.1.toNat : Int)), x16.2.2.2.2.2.2.2.2.2.2.2.1, x16.2.2.2.2.2.2.2.2.2.2.2.2) : TyL1), four1, ()) →
 attr_Put_q ((x16.1, x16.2.1, (ofI .u32 (x16.2.2.1.toNat : Int)), x16.2.2.2.1, (ofI .u32 (x16.2.2.2.2.1.toNat : Int)), x16.2.2.2.2.2.1, (ofI .u32 (x16.2.2.2.2.2.2.1.toNat : Int)), x16.2.2.2.2.2.2.2.1, x16.2.2.2.2.2.2.2.2.1, (ofI .u32 (x16.2.2.2.2.2.2.2.2.2.1.toNat : Int)), (ofI .u32 (x16.2.2.2.2.2.2.2.2.2.2.1.toNat : Int)), x16.2.2.2.2.2.2.2.2.2.2.2.1, x16.2.2.2.2.2.2.2.2.2.2.2.2) : TyL1) four1 (fun x18r0 x18r1 =>
 WfPs attr_Put_rs (x18r0, x18r1, ()) →
 IfB ((x18r1 : Int) != 0)
 (K (((x18r0.length : Int) : Int) == 0))
 ((WfPs attr_Read_ps (x18r0, four1, true, ()) →
 attr_Read_q x18r0 four1 true (fun x29r0 x29r1 x29r2 =>
 WfPs attr_Read_rs (x29r0, x29r1, x29r2, ()) →
 IfB (!four1)
 ((WfPs law20_great_ps (x13.2.1, ()) →
 law20_great_q x13.2.1 (fun x39 =>
 WfPs law20_great_rs (x39, ()) →
 IfB x39
 (IfB x13.2.2.2.2.2.2.2.2.1
 (IfB (decide (((x13.2.2.2.2.2.2.2.2.2.1.toNat : Int) : Int) <= 65535))
 (law20_AttrBack_j0 x13 x29r0 x29r1 (((x13.2.2.2.2.2.2.2.2.2.1.toNat : Int) : Int) != 23456) K)
 (law20_AttrBack_j0 x13 x29r0 x29r1 false K))
 (law20_AttrBack_j0 x13 x29r0 x29r1 false K))
 (law20_AttrBack_j0 x13 x29r0 x29r1 false K))))
 (law20_AttrBack_j0 x13 x29r0 x29r1 false K)))))))))))))
noncomputable def tab_law20_AttrBack : Tab := ⟨[(f_law20_few, ct_law20_few), (f_attr_Put, ct_attr_Put), (f_law20_works, ct_law20_works), (f_ref20_Same, ct_ref20_Same), (f_attr_Read, ct_attr_Read), (f_law20_great, ct_law20_great)], []⟩
abbrev law20_AttrBack_L (x : PkTs law20_AttrBack_ps) (K : PkTs law20_AttrBack_rs -> Prop) : Prop := law20_AttrBack_q x.1 x.2.1 (fun r0 => K (r0, ()))
theorem law20_AttrBack_eq : law20_AttrBack_L = fun x K => PCode Try.prog tab_law20_AttrBack plan_law20_AttrBack (bodyOf Try.f5) (parS law20_AttrBack_ps x) (PRet Try.prog Try.f5.results.toList fun a st => outP law20_AttrBack_rs st a K) := by kernel_rfl
theorem law20_AttrBack_fq : FnQ Try.prog f_law20_AttrBack law20_AttrBack_ps law20_AttrBack_rs law20_AttrBack_L := (fnQ_of k_law20_AttrBack (tab := tab_law20_AttrBack) ⟨⟨ct_law20_few_ok, ct_attr_Put_ok, ct_law20_works_ok, ct_ref20_Same_ok, ct_attr_Read_ok, ct_law20_great_ok, trivial⟩, trivial⟩ rfl).of_eq law20_AttrBack_eq
end Go.Proofs.Ytinilfhnplfhoaa
