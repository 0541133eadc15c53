/-
  EACH FUNCTION OVER PLAIN DATA: printed by a program of ours over this translation.
-/
import Derived.Test.YtinilfhnplfhoaaNum
set_option maxRecDepth 100000
set_option linter.unusedVariables false
namespace Go.Proofs.Ytinilfhnplfhoaa
open Go.Sh
abbrev ks_bool_lst_int_u32 : List Kd := [Kd.bool, Kd.lst [Kd.int .u32]]
abbrev ks_int_i64_lst_int_u8 : List Kd := [Kd.int .i64, Kd.lst [Kd.int .u8]]
abbrev ks_int_u32 : List Kd := [Kd.int .u32]
abbrev ks_lst_int_u8 : List Kd := [Kd.lst [Kd.int .u8]]
def pl_ref19_Copy_3 : PLoop := ⟨[(3, PK.row T_api_Segment [Kd.bool, Kd.lst [Kd.int .u32]]), (4, PK.int .i64)], [0], none⟩
def plan_ref19_Copy : PPlan := ⟨[(5, [0, 1, 2, 3, 4, 5, 6, 7, 8, 9, 10, 11, 12, 13, 14, 15, 16], [17])], [(3, pl_ref19_Copy_3)], [], []⟩
theorem k_ref19_Copy : Known Try.prog f_ref19_Copy Try.f21 plan_ref19_Copy.plan (bodyOf Try.f21) := ⟨Try.func21, by kernel_rfl, by kernel_rfl, by kernel_rfl, by kernel_rfl, by kernel_rfl⟩
abbrev ref19_Copy_ps : List Pk := [Pk.lst [Kd.bool, Kd.lst [Kd.int .u32]]]
abbrev ref19_Copy_rs : List Pk := [Pk.own T_api_Segment [Kd.bool, Kd.lst [Kd.int .u32]]]
def ref19_Copy_l3 (p0 : List (Bool × List UInt32)) (out3 : List (Bool × List UInt32)) (i4 : Int) (next3 : (List (Bool × List UInt32) × Int × Unit) → Prop) (K : List (Bool × List UInt32) → Prop) : Prop :=
 IfB (decide ((i4 : Int) < (p0.length : Int)))
 ((0 : Int) ≤ i4 ∧ AtN p0 i4.toNat fun x15 =>
 WfT ks_bool_lst_int_u32 x15 →
 (0 : Int) ≤ i4 ∧ AtN p0 i4.toNat fun x21 =>
 WfT ks_bool_lst_int_u32 x21 →
 ([] : List UInt32).length + x21.2.length ≤ 35184372088736 ∧
 out3.length + ([(x15.1, (([] : List UInt32) ++ x21.2))] : List (Bool × List UInt32)).length ≤ 4398046511008 ∧
 next3 ((out3 ++ ([(x15.1, (([] : List UInt32) ++ x21.2))] : List (Bool × List UInt32))), (IntKind.wrap .i64 (i4 + 1)), ()))
 (K out3)
def ref19_Copy_q (p0 : List (Bool × List UInt32)) (K : List (Bool × List UInt32) → Prop) : Prop :=
 LoopJ (List (Bool × List UInt32) × Int × Unit) (([] : List (Bool × List UInt32)), (0 : Int), ()) fun y next =>
 WfY pl_ref19_Copy_3.kinds y →
 ref19_Copy_l3 p0 y.1 y.2.1 next K
noncomputable def tab_ref19_Copy : List (Nat × Ct) := []
theorem ref19_Copy_eq (p0 : List (Bool × List UInt32)) (K : PkTs ref19_Copy_rs → Prop) : ref19_Copy_q p0 (fun r0 => K (r0, ())) = PCode Try.prog tab_ref19_Copy plan_ref19_Copy (bodyOf Try.f21) (parS ref19_Copy_ps (p0, ())) (PRet Try.prog Try.f21.results.toList fun a st => outP ref19_Copy_rs st a K) := by kernel_rfl
theorem ref19_Copy_fq : FnQ Try.prog f_ref19_Copy ref19_Copy_ps ref19_Copy_rs (fun x K => ref19_Copy_q x.1 (fun r0 => K (r0, ()))) := (fnQ_of k_ref19_Copy (tab := tab_ref19_Copy) trivial rfl).mono fun x K h => Eq.mp (ref19_Copy_eq x.1 K) h
noncomputable def ct_ref19_Copy : Ct := ctVal ref19_Copy_ps ref19_Copy_rs (fun x K => ref19_Copy_q x.1 (fun r0 => K (r0, ())))
theorem ct_ref19_Copy_ok : SoundCt Try.prog f_ref19_Copy ct_ref19_Copy := ctVal_sound ref19_Copy_fq
def pl_ref20_Copy_6 : PLoop := ⟨[(4, PK.int .i64)], [1, 2, 3], some (3, [PK.int .i64, PK.row T_api_Segment [Kd.bool, Kd.lst [Kd.int .u32]], PK.int .u32, PK.bool, PK.int .u32, PK.bool, PK.int .u32, PK.bool, PK.bool, PK.int .u32, PK.int .u32, PK.row T_uint32 [Kd.int .u32], PK.row T_api_Raw [Kd.int .i64, Kd.lst [Kd.int .u8]]])⟩
def plan_ref20_Copy : PPlan := ⟨[(8, [0, 1, 2, 3, 4, 5, 6, 7, 8, 9, 10, 11, 12, 13, 14, 15, 16, 17, 18, 19, 20], [25, 27, 31])], [(6, pl_ref20_Copy_6)], [], []⟩
theorem k_ref20_Copy : Known Try.prog f_ref20_Copy Try.f22 plan_ref20_Copy.plan (bodyOf Try.f22) := ⟨Try.func22, by kernel_rfl, by kernel_rfl, by kernel_rfl, by kernel_rfl, by kernel_rfl⟩
abbrev ref20_Copy_ps : List Pk := [Pk.agg [Kd.int .i64, Kd.lst [Kd.bool, Kd.lst [Kd.int .u32]], Kd.int .u32, Kd.bool, Kd.int .u32, Kd.bool, Kd.int .u32, Kd.bool, Kd.bool, Kd.int .u32, Kd.int .u32, Kd.lst [Kd.int .u32], Kd.lst [Kd.int .i64, Kd.lst [Kd.int .u8]]]]
abbrev ref20_Copy_rs : List Pk := [Pk.agg [Kd.int .i64, Kd.lst [Kd.bool, Kd.lst [Kd.int .u32]], Kd.int .u32, Kd.bool, Kd.int .u32, Kd.bool, Kd.int .u32, Kd.bool, Kd.bool, Kd.int .u32, Kd.int .u32, Kd.lst [Kd.int .u32], Kd.lst [Kd.int .i64, Kd.lst [Kd.int .u8]]]]
def ref20_Copy_l6 (a0 : Int × List (Bool × List UInt32) × UInt32 × Bool × UInt32 × Bool × UInt32 × Bool × Bool × UInt32 × UInt32 × List UInt32 × List (Int × List UInt8)) (i4 : Int) (c0 : Int) (c1 : List (Bool × List UInt32)) (c2 : Int) (c3 : Bool) (c4 : Int) (c5 : Bool) (c6 : Int) (c7 : Bool) (c8 : Bool) (c9 : Int) (c10 : Int) (c11 : List UInt32) (c12 : List (Int × List UInt8)) (next6 : (Int × Int × List (Bool × List UInt32) × Int × Bool × Int × Bool × Int × Bool × Bool × Int × Int × List UInt32 × List (Int × List UInt8) × Unit) → Prop) (K : (Int × List (Bool × List UInt32) × UInt32 × Bool × UInt32 × Bool × UInt32 × Bool × Bool × UInt32 × UInt32 × List UInt32 × List (Int × List UInt8)) → Prop) : Prop :=
 IfB (decide ((i4 : Int) < (a0.2.2.2.2.2.2.2.2.2.2.2.2.length : Int)))
 ((0 : Int) ≤ i4 ∧ AtN a0.2.2.2.2.2.2.2.2.2.2.2.2 i4.toNat fun x29 =>
 WfT ks_int_i64_lst_int_u8 x29 →
 (0 : Int) ≤ i4 ∧ AtN a0.2.2.2.2.2.2.2.2.2.2.2.2 i4.toNat fun x36 =>
 WfT ks_int_i64_lst_int_u8 x36 →
 ([] : List UInt8).length + x36.2.length ≤ 140737488355232 ∧
 c12.length + ([(x29.1, (([] : List UInt8) ++ x36.2))] : List (Int × List UInt8)).length ≤ 4398046511008 ∧
 next6 ((IntKind.wrap .i64 (i4 + 1)), c0, c1, c2, c3, c4, c5, c6, c7, c8, c9, c10, c11, (c12 ++ ([(x29.1, (([] : List UInt8) ++ x36.2))] : List (Int × List UInt8))), ()))
 (K (c0, c1, (ofI .u32 c2), c3, (ofI .u32 c4), c5, (ofI .u32 c6), c7, c8, (ofI .u32 c9), (ofI .u32 c10), c11, c12))
def ref20_Copy_q (a0 : Int × List (Bool × List UInt32) × UInt32 × Bool × UInt32 × Bool × UInt32 × Bool × Bool × UInt32 × UInt32 × List UInt32 × List (Int × List UInt8)) (K : (Int × List (Bool × List UInt32) × UInt32 × Bool × UInt32 × Bool × UInt32 × Bool × Bool × UInt32 × UInt32 × List UInt32 × List (Int × List UInt8)) → Prop) : Prop :=
 (WfPs ref19_Copy_ps (a0.2.1, ()) →
 ref19_Copy_q a0.2.1 (fun x8 =>
 WfPs ref19_Copy_rs (x8, ()) →
 ([] : List UInt32).length + a0.2.2.2.2.2.2.2.2.2.2.2.1.length ≤ 35184372088736 ∧
 LoopJ (Int × Int × List (Bool × List UInt32) × Int × Bool × Int × Bool × Int × Bool × Bool × Int × Int × List UInt32 × List (Int × List UInt8) × Unit) ((0 : Int), a0.1, x8, (a0.2.2.1.toNat : Int), a0.2.2.2.1, (a0.2.2.2.2.1.toNat : Int), a0.2.2.2.2.2.1, (a0.2.2.2.2.2.2.1.toNat : Int), a0.2.2.2.2.2.2.2.1, a0.2.2.2.2.2.2.2.2.1, (a0.2.2.2.2.2.2.2.2.2.1.toNat : Int), (a0.2.2.2.2.2.2.2.2.2.2.1.toNat : Int), (([] : List UInt32) ++ a0.2.2.2.2.2.2.2.2.2.2.2.1), ([] : List (Int × List UInt8)), ()) fun y next =>
 WfY pl_ref20_Copy_6.kinds y →
 ref20_Copy_l6 a0 y.1 y.2.1 y.2.2.1 y.2.2.2.1 y.2.2.2.2.1 y.2.2.2.2.2.1 y.2.2.2.2.2.2.1 y.2.2.2.2.2.2.2.1 y.2.2.2.2.2.2.2.2.1 y.2.2.2.2.2.2.2.2.2.1 y.2.2.2.2.2.2.2.2.2.2.1 y.2.2.2.2.2.2.2.2.2.2.2.1 y.2.2.2.2.2.2.2.2.2.2.2.2.1 y.2.2.2.2.2.2.2.2.2.2.2.2.2.1 next K))
noncomputable def tab_ref20_Copy : List (Nat × Ct) := [(f_ref19_Copy, ct_ref19_Copy)]
theorem ref20_Copy_eq (a0 : Int × List (Bool × List UInt32) × UInt32 × Bool × UInt32 × Bool × UInt32 × Bool × Bool × UInt32 × UInt32 × List UInt32 × List (Int × List UInt8)) (K : PkTs ref20_Copy_rs → Prop) : ref20_Copy_q a0 (fun r0 => K (r0, ())) = PCode Try.prog tab_ref20_Copy plan_ref20_Copy (bodyOf Try.f22) (parS ref20_Copy_ps (a0, ())) (PRet Try.prog Try.f22.results.toList fun a st => outP ref20_Copy_rs st a K) := by kernel_rfl
theorem ref20_Copy_fq : FnQ Try.prog f_ref20_Copy ref20_Copy_ps ref20_Copy_rs (fun x K => ref20_Copy_q x.1 (fun r0 => K (r0, ()))) := (fnQ_of k_ref20_Copy (tab := tab_ref20_Copy) ⟨ct_ref19_Copy_ok, trivial⟩ rfl).mono fun x K h => Eq.mp (ref20_Copy_eq x.1 K) h
noncomputable def ct_ref20_Copy : Ct := ctVal ref20_Copy_ps ref20_Copy_rs (fun x K => ref20_Copy_q x.1 (fun r0 => K (r0, ())))
theorem ct_ref20_Copy_ok : SoundCt Try.prog f_ref20_Copy ct_ref20_Copy := ctVal_sound ref20_Copy_fq
def pl_law20_few_3 : PLoop := ⟨[(3, PK.int .i64)], [1, 2], some (1, [PK.int .i64, PK.row T_api_Segment [Kd.bool, Kd.lst [Kd.int .u32]], PK.int .u32, PK.bool, PK.int .u32, PK.bool, PK.int .u32, PK.bool, PK.bool, PK.int .u32, PK.int .u32, PK.lst [Kd.int .u32], PK.lst [Kd.int .i64, Kd.lst [Kd.int .u8]]])⟩
def pl_law20_few_9 : PLoop := ⟨[(4, PK.row T_api_Raw [Kd.int .i64, Kd.lst [Kd.int .u8]]), (5, PK.int .i64)], [1, 2], none⟩
def plan_law20_few : PPlan := ⟨[], [(3, pl_law20_few_3), (9, pl_law20_few_9)], [], []⟩
theorem k_law20_few : Known Try.prog f_law20_few Try.f8 plan_law20_few.plan (bodyOf Try.f8) := ⟨Try.func8, by kernel_rfl, by kernel_rfl, by kernel_rfl, by kernel_rfl, by kernel_rfl⟩
abbrev law20_few_ps : List Pk := [Pk.agg [Kd.int .i64, Kd.lst [Kd.bool, Kd.lst [Kd.int .u32]], Kd.int .u32, Kd.bool, Kd.int .u32, Kd.bool, Kd.int .u32, Kd.bool, Kd.bool, Kd.int .u32, Kd.int .u32, Kd.lst [Kd.int .u32], Kd.lst [Kd.int .i64, Kd.lst [Kd.int .u8]]]]
abbrev law20_few_rs : List Pk := [Pk.agg [Kd.int .i64, Kd.lst [Kd.bool, Kd.lst [Kd.int .u32]], Kd.int .u32, Kd.bool, Kd.int .u32, Kd.bool, Kd.int .u32, Kd.bool, Kd.bool, Kd.int .u32, Kd.int .u32, Kd.lst [Kd.int .u32], Kd.lst [Kd.int .i64, Kd.lst [Kd.int .u8]]]]
def law20_few_j0 (c0 : Int) (c1 : List (Bool × List UInt32)) (c2 : Int) (c3 : Bool) (c4 : Int) (c5 : Bool) (c6 : Int) (c7 : Bool) (c8 : Bool) (c9 : Int) (c10 : Int) (c11 : List UInt32) (c12 : List (Int × List UInt8)) (l4 : List (Int × List UInt8)) (i5 : Int) (next9 : (List (Int × List UInt8) × Int × Unit) → Prop) (j28 : Bool) (K : (Int × List (Bool × List UInt32) × UInt32 × Bool × UInt32 × Bool × UInt32 × Bool × Bool × UInt32 × UInt32 × List UInt32 × List (Int × List UInt8)) → Prop) : Prop :=
 IfB j28
 ((0 : Int) ≤ i5 ∧ AtN c12 i5.toNat fun x66 =>
 WfT ks_int_i64_lst_int_u8 x66 →
 (0 : Int) ≤ i5 ∧ AtN c12 i5.toNat fun x72 =>
 WfT ks_int_i64_lst_int_u8 x72 →
 (0 : Int) ≤ i5 ∧ AtN c12 i5.toNat fun x78 =>
 WfT ks_int_i64_lst_int_u8 x78 →
 (0 : Int) ≤ (min (x78.2.length : Int) 260) ∧ (min (x78.2.length : Int) 260) ≤ (x72.2.length : Int) ∧
 l4.length + ([(x66.1, (x72.2.take ((min (x78.2.length : Int) 260).toNat)))] : List (Int × List UInt8)).length ≤ 4398046511008 ∧
 next9 ((l4 ++ ([(x66.1, (x72.2.take ((min (x78.2.length : Int) 260).toNat)))] : List (Int × List UInt8))), (IntKind.wrap .i64 (i5 + 1)), ()))
 ((WfPs ref20_Copy_ps (((c0, c1, (ofI .u32 c2), c3, (ofI .u32 c4), c5, (ofI .u32 c6), c7, c8, (ofI .u32 c9), (ofI .u32 c10), (c11.take ((min (c11.length : Int) 40).toNat)), l4) : Int × List (Bool × List UInt32) × UInt32 × Bool × UInt32 × Bool × UInt32 × Bool × Bool × UInt32 × UInt32 × List UInt32 × List (Int × List UInt8)), ()) →
 ref20_Copy_q ((c0, c1, (ofI .u32 c2), c3, (ofI .u32 c4), c5, (ofI .u32 c6), c7, c8, (ofI .u32 c9), (ofI .u32 c10), (c11.take ((min (c11.length : Int) 40).toNat)), l4) : Int × List (Bool × List UInt32) × UInt32 × Bool × UInt32 × Bool × UInt32 × Bool × Bool × UInt32 × UInt32 × List UInt32 × List (Int × List UInt8)) (fun x90 =>
 WfPs ref20_Copy_rs (x90, ()) →
 K (x90.1, x90.2.1, (ofI .u32 (x90.2.2.1.toNat : Int)), x90.2.2.2.1, (ofI .u32 (x90.2.2.2.2.1.toNat : Int)), x90.2.2.2.2.2.1, (ofI .u32 (x90.2.2.2.2.2.2.1.toNat : Int)), x90.2.2.2.2.2.2.2.1, x90.2.2.2.2.2.2.2.2.1, (ofI .u32 (x90.2.2.2.2.2.2.2.2.2.1.toNat : Int)), (ofI .u32 (x90.2.2.2.2.2.2.2.2.2.2.1.toNat : Int)), x90.2.2.2.2.2.2.2.2.2.2.2.1, x90.2.2.2.2.2.2.2.2.2.2.2.2))))
def law20_few_l9 (c0 : Int) (c1 : List (Bool × List UInt32)) (c2 : Int) (c3 : Bool) (c4 : Int) (c5 : Bool) (c6 : Int) (c7 : Bool) (c8 : Bool) (c9 : Int) (c10 : Int) (c11 : List UInt32) (c12 : List (Int × List UInt8)) (l4 : List (Int × List UInt8)) (i5 : Int) (next9 : (List (Int × List UInt8) × Int × Unit) → Prop) (K : (Int × List (Bool × List UInt32) × UInt32 × Bool × UInt32 × Bool × UInt32 × Bool × Bool × UInt32 × UInt32 × List UInt32 × List (Int × List UInt8)) → Prop) : Prop :=
 IfB (decide ((i5 : Int) < (c12.length : Int)))
 (law20_few_j0 c0 c1 c2 c3 c4 c5 c6 c7 c8 c9 c10 c11 c12 l4 i5 next9 (decide ((i5 : Int) < 10)) K)
 (law20_few_j0 c0 c1 c2 c3 c4 c5 c6 c7 c8 c9 c10 c11 c12 l4 i5 next9 false K)
def law20_few_l3 (a0 : Int × List (Bool × List UInt32) × UInt32 × Bool × UInt32 × Bool × UInt32 × Bool × Bool × UInt32 × UInt32 × List UInt32 × List (Int × List UInt8)) (i3 : Int) (c0 : Int) (c1 : List (Bool × List UInt32)) (c2 : Int) (c3 : Bool) (c4 : Int) (c5 : Bool) (c6 : Int) (c7 : Bool) (c8 : Bool) (c9 : Int) (c10 : Int) (c11 : List UInt32) (c12 : List (Int × List UInt8)) (next3 : (Int × Int × List (Bool × List UInt32) × Int × Bool × Int × Bool × Int × Bool × Bool × Int × Int × List UInt32 × List (Int × List UInt8) × Unit) → Prop) (K : (Int × List (Bool × List UInt32) × UInt32 × Bool × UInt32 × Bool × UInt32 × Bool × Bool × UInt32 × UInt32 × List UInt32 × List (Int × List UInt8)) → Prop) : Prop :=
 IfB (decide ((i3 : Int) < (c1.length : Int)))
 ((0 : Int) ≤ i3 ∧ i3 < (c1.length : Int) ∧
 AtN c1 i3.toNat fun x30 =>
 WfT ks_bool_lst_int_u32 x30 →
 (0 : Int) ≤ i3 ∧ i3 < (c1.length : Int) ∧
 AtN c1 i3.toNat fun x36 =>
 WfT ks_bool_lst_int_u32 x36 →
 (0 : Int) ≤ (min (x36.2.length : Int) 260) ∧ (min (x36.2.length : Int) 260) ≤ (x30.2.length : Int) ∧
 (0 : Int) ≤ i3 ∧ i3 < (c1.length : Int) ∧
 AtN c1 i3.toNat fun el =>
 WfT ks_bool_lst_int_u32 el →
 next3 ((IntKind.wrap .i64 (i3 + 1)), c0, (c1.set i3.toNat (el.1, (x30.2.take ((min (x36.2.length : Int) 260).toNat)))), c2, c3, c4, c5, c6, c7, c8, c9, c10, c11, c12, ()))
 ((0 : Int) ≤ (min (c11.length : Int) 40) ∧ (min (c11.length : Int) 40) ≤ (c11.length : Int) ∧
 LoopJ (List (Int × List UInt8) × Int × Unit) (([] : List (Int × List UInt8)), (0 : Int), ()) fun y next =>
 WfY pl_law20_few_9.kinds y →
 law20_few_l9 c0 c1 c2 c3 c4 c5 c6 c7 c8 c9 c10 c11 c12 y.1 y.2.1 next K)
def law20_few_q (a0 : Int × List (Bool × List UInt32) × UInt32 × Bool × UInt32 × Bool × UInt32 × Bool × Bool × UInt32 × UInt32 × List UInt32 × List (Int × List UInt8)) (K : (Int × List (Bool × List UInt32) × UInt32 × Bool × UInt32 × Bool × UInt32 × Bool × Bool × UInt32 × UInt32 × List UInt32 × List (Int × List UInt8)) → Prop) : Prop :=
 (0 : Int) ≤ (min (a0.2.1.length : Int) 8) ∧ (min (a0.2.1.length : Int) 8) ≤ (a0.2.1.length : Int) ∧
 (WfPs ref19_Copy_ps ((a0.2.1.take ((min (a0.2.1.length : Int) 8).toNat)), ()) →
 ref19_Copy_q (a0.2.1.take ((min (a0.2.1.length : Int) 8).toNat)) (fun x13 =>
 WfPs ref19_Copy_rs (x13, ()) →
 LoopJ (Int × Int × List (Bool × List UInt32) × Int × Bool × Int × Bool × Int × Bool × Bool × Int × Int × List UInt32 × List (Int × List UInt8) × Unit) ((0 : Int), a0.1, x13, (a0.2.2.1.toNat : Int), a0.2.2.2.1, (a0.2.2.2.2.1.toNat : Int), a0.2.2.2.2.2.1, (a0.2.2.2.2.2.2.1.toNat : Int), a0.2.2.2.2.2.2.2.1, a0.2.2.2.2.2.2.2.2.1, (a0.2.2.2.2.2.2.2.2.2.1.toNat : Int), (a0.2.2.2.2.2.2.2.2.2.2.1.toNat : Int), a0.2.2.2.2.2.2.2.2.2.2.2.1, a0.2.2.2.2.2.2.2.2.2.2.2.2, ()) fun y next =>
 WfY pl_law20_few_3.kinds y →
 law20_few_l3 a0 y.1 y.2.1 y.2.2.1 y.2.2.2.1 y.2.2.2.2.1 y.2.2.2.2.2.1 y.2.2.2.2.2.2.1 y.2.2.2.2.2.2.2.1 y.2.2.2.2.2.2.2.2.1 y.2.2.2.2.2.2.2.2.2.1 y.2.2.2.2.2.2.2.2.2.2.1 y.2.2.2.2.2.2.2.2.2.2.2.1 y.2.2.2.2.2.2.2.2.2.2.2.2.1 y.2.2.2.2.2.2.2.2.2.2.2.2.2.1 next K))
noncomputable def tab_law20_few : List (Nat × Ct) := [(f_ref19_Copy, ct_ref19_Copy), (f_ref20_Copy, ct_ref20_Copy)]
theorem law20_few_eq (a0 : Int × List (Bool × List UInt32) × UInt32 × Bool × UInt32 × Bool × UInt32 × Bool × Bool × UInt32 × UInt32 × List UInt32 × List (Int × List UInt8)) (K : PkTs law20_few_rs → Prop) : law20_few_q a0 (fun r0 => K (r0, ())) = PCode Try.prog tab_law20_few plan_law20_few (bodyOf Try.f8) (parS law20_few_ps (a0, ())) (PRet Try.prog Try.f8.results.toList fun a st => outP law20_few_rs st a K) := by kernel_rfl
theorem law20_few_fq : FnQ Try.prog f_law20_few law20_few_ps law20_few_rs (fun x K => law20_few_q x.1 (fun r0 => K (r0, ()))) := (fnQ_of k_law20_few (tab := tab_law20_few) ⟨ct_ref19_Copy_ok, ct_ref20_Copy_ok, trivial⟩ rfl).mono fun x K h => Eq.mp (law20_few_eq x.1 K) h
noncomputable def ct_law20_few : Ct := ctVal law20_few_ps law20_few_rs (fun x K => law20_few_q x.1 (fun r0 => K (r0, ())))
theorem ct_law20_few_ok : SoundCt Try.prog f_law20_few ct_law20_few := ctVal_sound law20_few_fq
def pl_slices_Indexasl_uint32_uint32_2 : PLoop := ⟨[(8, PK.int .i64)], [0, 1, 7], none⟩
def plan_slices_Indexasl_uint32_uint32 : PPlan := ⟨[], [(2, pl_slices_Indexasl_uint32_uint32_2)], [], []⟩
theorem k_slices_Indexasl_uint32_uint32 : Known Try.prog f_slices_Indexasl_uint32_uint32 Try.f82 plan_slices_Indexasl_uint32_uint32.plan (bodyOf Try.f82) := ⟨Try.func82, by kernel_rfl, by kernel_rfl, by kernel_rfl, by kernel_rfl, by kernel_rfl⟩
abbrev slices_Indexasl_uint32_uint32_ps : List Pk := [Pk.lst [Kd.int .u32], Pk.int .u32]
abbrev slices_Indexasl_uint32_uint32_rs : List Pk := [Pk.int .i64]
def slices_Indexasl_uint32_uint32_l2 (s0 : List UInt32) (v1 : Int) (x8 : Int) (next2 : (Int × Unit) → Prop) (K : Int → Prop) : Prop :=
 IfB (decide ((x8 : Int) < (s0.length : Int)))
 ((0 : Int) ≤ x8 ∧ AtN s0 x8.toNat fun x14 =>
 WfT ks_int_u32 x14 →
 IfB ((v1 : Int) == (x14.toNat : Int))
 (K x8)
 (next2 ((IntKind.wrap .i64 (x8 + 1)), ())))
 (K (-1))
def slices_Indexasl_uint32_uint32_q (s0 : List UInt32) (v1 : Int) (K : Int → Prop) : Prop :=
 LoopJ (Int × Unit) ((0 : Int), ()) fun y next =>
 WfY pl_slices_Indexasl_uint32_uint32_2.kinds y →
 slices_Indexasl_uint32_uint32_l2 s0 v1 y.1 next K
noncomputable def tab_slices_Indexasl_uint32_uint32 : List (Nat × Ct) := []
theorem slices_Indexasl_uint32_uint32_eq (s0 : List UInt32) (v1 : Int) (K : PkTs slices_Indexasl_uint32_uint32_rs → Prop) : slices_Indexasl_uint32_uint32_q s0 v1 (fun r0 => K (r0, ())) = PCode Try.prog tab_slices_Indexasl_uint32_uint32 plan_slices_Indexasl_uint32_uint32 (bodyOf Try.f82) (parS slices_Indexasl_uint32_uint32_ps (s0, v1, ())) (PRet Try.prog Try.f82.results.toList fun a st => outP slices_Indexasl_uint32_uint32_rs st a K) := by kernel_rfl
theorem slices_Indexasl_uint32_uint32_fq : FnQ Try.prog f_slices_Indexasl_uint32_uint32 slices_Indexasl_uint32_uint32_ps slices_Indexasl_uint32_uint32_rs (fun x K => slices_Indexasl_uint32_uint32_q x.1 x.2.1 (fun r0 => K (r0, ()))) := (fnQ_of k_slices_Indexasl_uint32_uint32 (tab := tab_slices_Indexasl_uint32_uint32) trivial rfl).mono fun x K h => Eq.mp (slices_Indexasl_uint32_uint32_eq x.1 x.2.1 K) h
noncomputable def ct_slices_Indexasl_uint32_uint32 : Ct := ctBor slices_Indexasl_uint32_uint32_ps slices_Indexasl_uint32_uint32_rs (fun x K => slices_Indexasl_uint32_uint32_q x.1 x.2.1 (fun r0 => K (r0, ())))
theorem ct_slices_Indexasl_uint32_uint32_ok : SoundCt Try.prog f_slices_Indexasl_uint32_uint32 ct_slices_Indexasl_uint32_uint32 := ctBor_sound slices_Indexasl_uint32_uint32_fq
def plan_slices_Containsasl_uint32_uint32 : PPlan := ⟨[], [], [], []⟩
theorem k_slices_Containsasl_uint32_uint32 : Known Try.prog f_slices_Containsasl_uint32_uint32 Try.f71 plan_slices_Containsasl_uint32_uint32.plan (bodyOf Try.f71) := ⟨Try.func71, by kernel_rfl, by kernel_rfl, by kernel_rfl, by kernel_rfl, by kernel_rfl⟩
abbrev slices_Containsasl_uint32_uint32_ps : List Pk := [Pk.lst [Kd.int .u32], Pk.int .u32]
abbrev slices_Containsasl_uint32_uint32_rs : List Pk := [Pk.bool]
def slices_Containsasl_uint32_uint32_q (s0 : List UInt32) (v1 : Int) (K : Bool → Prop) : Prop :=
 (WfPs slices_Indexasl_uint32_uint32_ps (s0, v1, ()) →
 slices_Indexasl_uint32_uint32_q s0 v1 (fun x7 =>
 WfPs slices_Indexasl_uint32_uint32_rs (x7, ()) →
 K (decide ((x7 : Int) ≥ 0))))
noncomputable def tab_slices_Containsasl_uint32_uint32 : List (Nat × Ct) := [(f_slices_Indexasl_uint32_uint32, ct_slices_Indexasl_uint32_uint32)]
theorem slices_Containsasl_uint32_uint32_eq (s0 : List UInt32) (v1 : Int) (K : PkTs slices_Containsasl_uint32_uint32_rs → Prop) : slices_Containsasl_uint32_uint32_q s0 v1 (fun r0 => K (r0, ())) = PCode Try.prog tab_slices_Containsasl_uint32_uint32 plan_slices_Containsasl_uint32_uint32 (bodyOf Try.f71) (parS slices_Containsasl_uint32_uint32_ps (s0, v1, ())) (PRet Try.prog Try.f71.results.toList fun a st => outP slices_Containsasl_uint32_uint32_rs st a K) := by kernel_rfl
theorem slices_Containsasl_uint32_uint32_fq : FnQ Try.prog f_slices_Containsasl_uint32_uint32 slices_Containsasl_uint32_uint32_ps slices_Containsasl_uint32_uint32_rs (fun x K => slices_Containsasl_uint32_uint32_q x.1 x.2.1 (fun r0 => K (r0, ()))) := (fnQ_of k_slices_Containsasl_uint32_uint32 (tab := tab_slices_Containsasl_uint32_uint32) ⟨ct_slices_Indexasl_uint32_uint32_ok, trivial⟩ rfl).mono fun x K h => Eq.mp (slices_Containsasl_uint32_uint32_eq x.1 x.2.1 K) h
noncomputable def ct_slices_Containsasl_uint32_uint32 : Ct := ctBor slices_Containsasl_uint32_uint32_ps slices_Containsasl_uint32_uint32_rs (fun x K => slices_Containsasl_uint32_uint32_q x.1 x.2.1 (fun r0 => K (r0, ())))
theorem ct_slices_Containsasl_uint32_uint32_ok : SoundCt Try.prog f_slices_Containsasl_uint32_uint32 ct_slices_Containsasl_uint32_uint32 := ctBor_sound slices_Containsasl_uint32_uint32_fq
def plan_path_part : PPlan := ⟨[], [], [], []⟩
theorem k_path_part : Known Try.prog f_path_part Try.f59 plan_path_part.plan (bodyOf Try.f59) := ⟨Try.func59, by kernel_rfl, by kernel_rfl, by kernel_rfl, by kernel_rfl, by kernel_rfl⟩
abbrev path_part_ps : List Pk := [Pk.agg [Kd.bool, Kd.lst [Kd.int .u32]]]
abbrev path_part_rs : List Pk := [Pk.bool]
def path_part_q (s0 : Bool × List UInt32) (K : Bool → Prop) : Prop :=
 IfB (decide (((s0.2.length : Int) : Int) > 0))
 (IfB (decide (((s0.2.length : Int) : Int) ≤ 255))
 ((WfPs slices_Containsasl_uint32_uint32_ps (s0.2, (0 : Int), ()) →
 slices_Containsasl_uint32_uint32_q s0.2 (0 : Int) (fun x16 =>
 WfPs slices_Containsasl_uint32_uint32_rs (x16, ()) →
 K (!x16))))
 (K false))
 (K false)
noncomputable def tab_path_part : List (Nat × Ct) := [(f_slices_Containsasl_uint32_uint32, ct_slices_Containsasl_uint32_uint32)]
theorem path_part_eq (s0 : Bool × List UInt32) (K : PkTs path_part_rs → Prop) : path_part_q s0 (fun r0 => K (r0, ())) = PCode Try.prog tab_path_part plan_path_part (bodyOf Try.f59) (parS path_part_ps (s0, ())) (PRet Try.prog Try.f59.results.toList fun a st => outP path_part_rs st a K) := by kernel_rfl
theorem path_part_fq : FnQ Try.prog f_path_part path_part_ps path_part_rs (fun x K => path_part_q x.1 (fun r0 => K (r0, ()))) := (fnQ_of k_path_part (tab := tab_path_part) ⟨ct_slices_Containsasl_uint32_uint32_ok, trivial⟩ rfl).mono fun x K h => Eq.mp (path_part_eq x.1 K) h
noncomputable def ct_path_part : Ct := ctBor path_part_ps path_part_rs (fun x K => path_part_q x.1 (fun r0 => K (r0, ())))
theorem ct_path_part_ok : SoundCt Try.prog f_path_part ct_path_part := ctBor_sound path_part_fq
def pl_path_count_3 : PLoop := ⟨[(3, PK.int .i64), (8, PK.int .i64)], [6, 7], none⟩
def plan_path_count : PPlan := ⟨[], [(3, pl_path_count_3)], [], []⟩
theorem k_path_count : Known Try.prog f_path_count Try.f60 plan_path_count.plan (bodyOf Try.f60) := ⟨Try.func60, by kernel_rfl, by kernel_rfl, by kernel_rfl, by kernel_rfl, by kernel_rfl⟩
abbrev path_count_ps : List Pk := [Pk.lst [Kd.bool, Kd.lst [Kd.int .u32]]]
abbrev path_count_rs : List Pk := [Pk.int .i64]
def path_count_l3 (p0 : List (Bool × List UInt32)) (n3 : Int) (x8 : Int) (next3 : (Int × Int × Unit) → Prop) (K : Int → Prop) : Prop :=
 IfB (decide ((x8 : Int) < (p0.length : Int)))
 ((0 : Int) ≤ x8 ∧ AtN p0 x8.toNat fun x10 =>
 WfT ks_bool_lst_int_u32 x10 →
 next3 ((IntKind.wrap .i64 (n3 + (x10.2.length : Int))), (IntKind.wrap .i64 (x8 + 1)), ()))
 (K n3)
def path_count_q (p0 : List (Bool × List UInt32)) (K : Int → Prop) : Prop :=
 LoopJ (Int × Int × Unit) ((0 : Int), (0 : Int), ()) fun y next =>
 WfY pl_path_count_3.kinds y →
 path_count_l3 p0 y.1 y.2.1 next K
noncomputable def tab_path_count : List (Nat × Ct) := []
theorem path_count_eq (p0 : List (Bool × List UInt32)) (K : PkTs path_count_rs → Prop) : path_count_q p0 (fun r0 => K (r0, ())) = PCode Try.prog tab_path_count plan_path_count (bodyOf Try.f60) (parS path_count_ps (p0, ())) (PRet Try.prog Try.f60.results.toList fun a st => outP path_count_rs st a K) := by kernel_rfl
theorem path_count_fq : FnQ Try.prog f_path_count path_count_ps path_count_rs (fun x K => path_count_q x.1 (fun r0 => K (r0, ()))) := (fnQ_of k_path_count (tab := tab_path_count) trivial rfl).mono fun x K h => Eq.mp (path_count_eq x.1 K) h
noncomputable def ct_path_count : Ct := ctBor path_count_ps path_count_rs (fun x K => path_count_q x.1 (fun r0 => K (r0, ())))
theorem ct_path_count_ok : SoundCt Try.prog f_path_count ct_path_count := ctBor_sound path_count_fq
def pl_path_Check_2 : PLoop := ⟨[(7, PK.int .i64)], [0, 5, 6], none⟩
def plan_path_Check : PPlan := ⟨[], [(2, pl_path_Check_2)], [], []⟩
theorem k_path_Check : Known Try.prog f_path_Check Try.f33 plan_path_Check.plan (bodyOf Try.f33) := ⟨Try.func33, by kernel_rfl, by kernel_rfl, by kernel_rfl, by kernel_rfl, by kernel_rfl⟩
abbrev path_Check_ps : List Pk := [Pk.lst [Kd.bool, Kd.lst [Kd.int .u32]]]
abbrev path_Check_rs : List Pk := [Pk.int .i64]
def path_Check_l2 (p0 : List (Bool × List UInt32)) (x7 : Int) (next2 : (Int × Unit) → Prop) (K : Int → Prop) : Prop :=
 IfB (decide ((x7 : Int) < (p0.length : Int)))
 ((0 : Int) ≤ x7 ∧ AtN p0 x7.toNat fun x9 =>
 WfT ks_bool_lst_int_u32 x9 →
 (WfPs path_part_ps (x9, ()) →
 path_part_q x9 (fun x12 =>
 WfPs path_part_rs (x12, ()) →
 IfB (!x12)
 (K 2)
 (next2 ((IntKind.wrap .i64 (x7 + 1)), ())))))
 ((WfPs path_count_ps (p0, ()) →
 path_count_q p0 (fun x16 =>
 WfPs path_count_rs (x16, ()) →
 IfB (decide ((x16 : Int) > 64))
 (K 2)
 (K 0))))
def path_Check_q (p0 : List (Bool × List UInt32)) (K : Int → Prop) : Prop :=
 LoopJ (Int × Unit) ((0 : Int), ()) fun y next =>
 WfY pl_path_Check_2.kinds y →
 path_Check_l2 p0 y.1 next K
noncomputable def tab_path_Check : List (Nat × Ct) := [(f_path_part, ct_path_part), (f_path_count, ct_path_count)]
theorem path_Check_eq (p0 : List (Bool × List UInt32)) (K : PkTs path_Check_rs → Prop) : path_Check_q p0 (fun r0 => K (r0, ())) = PCode Try.prog tab_path_Check plan_path_Check (bodyOf Try.f33) (parS path_Check_ps (p0, ())) (PRet Try.prog Try.f33.results.toList fun a st => outP path_Check_rs st a K) := by kernel_rfl
theorem path_Check_fq : FnQ Try.prog f_path_Check path_Check_ps path_Check_rs (fun x K => path_Check_q x.1 (fun r0 => K (r0, ()))) := (fnQ_of k_path_Check (tab := tab_path_Check) ⟨ct_path_part_ok, ct_path_count_ok, trivial⟩ rfl).mono fun x K h => Eq.mp (path_Check_eq x.1 K) h
noncomputable def ct_path_Check : Ct := ctBor path_Check_ps path_Check_rs (fun x K => path_Check_q x.1 (fun r0 => K (r0, ())))
theorem ct_path_Check_ok : SoundCt Try.prog f_path_Check ct_path_Check := ctBor_sound path_Check_fq
def plan_attr_hop : PPlan := ⟨[], [], [], []⟩
theorem k_attr_hop : Known Try.prog f_attr_hop Try.f34 plan_attr_hop.plan (bodyOf Try.f34) := ⟨Try.func34, by kernel_rfl, by kernel_rfl, by kernel_rfl, by kernel_rfl, by kernel_rfl⟩
abbrev attr_hop_ps : List Pk := [Pk.int .u32]
abbrev attr_hop_rs : List Pk := [Pk.bool]
def attr_hop_q (a0 : Int) (K : Bool → Prop) : Prop :=
 IfB ((a0 : Int) != 0)
 (K (decide ((a0 : Int) < 3758096384)))
 (K false)
noncomputable def tab_attr_hop : List (Nat × Ct) := []
theorem attr_hop_eq (a0 : Int) (K : PkTs attr_hop_rs → Prop) : attr_hop_q a0 (fun r0 => K (r0, ())) = PCode Try.prog tab_attr_hop plan_attr_hop (bodyOf Try.f34) (parS attr_hop_ps (a0, ())) (PRet Try.prog Try.f34.results.toList fun a st => outP attr_hop_rs st a K) := by kernel_rfl
theorem attr_hop_fq : FnQ Try.prog f_attr_hop attr_hop_ps attr_hop_rs (fun x K => attr_hop_q x.1 (fun r0 => K (r0, ()))) := (fnQ_of k_attr_hop (tab := tab_attr_hop) trivial rfl).mono fun x K h => Eq.mp (attr_hop_eq x.1 K) h
noncomputable def ct_attr_hop : Ct := ctBor attr_hop_ps attr_hop_rs (fun x K => attr_hop_q x.1 (fun r0 => K (r0, ())))
theorem ct_attr_hop_ok : SoundCt Try.prog f_attr_hop ct_attr_hop := ctBor_sound attr_hop_fq
def plan_attr_known : PPlan := ⟨[], [], [], []⟩
theorem k_attr_known : Known Try.prog f_attr_known Try.f52 plan_attr_known.plan (bodyOf Try.f52) := ⟨Try.func52, by kernel_rfl, by kernel_rfl, by kernel_rfl, by kernel_rfl, by kernel_rfl⟩
abbrev attr_known_ps : List Pk := [Pk.int .i64]
abbrev attr_known_rs : List Pk := [Pk.int .u8, Pk.bool]
def attr_known_j2 (j0 : Bool) (K : Int → Bool → Prop) : Prop :=
 IfB j0
 (K 192 true)
 (K 0 false)
def attr_known_j1 (kind0 : Int) (K : Int → Bool → Prop) : Prop :=
 IfB ((kind0 : Int) == 4)
 (K 128 true)
 (IfB ((kind0 : Int) == 7)
 (attr_known_j2 ((kind0 : Int) == 7) K)
 (IfB ((kind0 : Int) == 8)
 (attr_known_j2 ((kind0 : Int) == 8) K)
 (IfB ((kind0 : Int) == 17)
 (attr_known_j2 ((kind0 : Int) == 17) K)
 (attr_known_j2 ((kind0 : Int) == 18) K))))
def attr_known_j0 (kind0 : Int) (j1 : Bool) (K : Int → Bool → Prop) : Prop :=
 IfB j1
 (K 64 true)
 (attr_known_j1 kind0 K)
def attr_known_q (kind0 : Int) (K : Int → Bool → Prop) : Prop :=
 IfB ((kind0 : Int) == 1)
 (attr_known_j0 kind0 ((kind0 : Int) == 1) K)
 (IfB ((kind0 : Int) == 2)
 (attr_known_j0 kind0 ((kind0 : Int) == 2) K)
 (IfB ((kind0 : Int) == 3)
 (attr_known_j0 kind0 ((kind0 : Int) == 3) K)
 (IfB ((kind0 : Int) == 5)
 (attr_known_j0 kind0 ((kind0 : Int) == 5) K)
 (attr_known_j0 kind0 ((kind0 : Int) == 6) K))))
noncomputable def tab_attr_known : List (Nat × Ct) := []
theorem attr_known_eq (kind0 : Int) (K : PkTs attr_known_rs → Prop) : attr_known_q kind0 (fun r0 r1 => K (r0, r1, ())) = PCode Try.prog tab_attr_known plan_attr_known (bodyOf Try.f52) (parS attr_known_ps (kind0, ())) (PRet Try.prog Try.f52.results.toList fun a st => outP attr_known_rs st a K) := by kernel_rfl
theorem attr_known_fq : FnQ Try.prog f_attr_known attr_known_ps attr_known_rs (fun x K => attr_known_q x.1 (fun r0 r1 => K (r0, r1, ()))) := (fnQ_of k_attr_known (tab := tab_attr_known) trivial rfl).mono fun x K h => Eq.mp (attr_known_eq x.1 K) h
noncomputable def ct_attr_known : Ct := ctBor attr_known_ps attr_known_rs (fun x K => attr_known_q x.1 (fun r0 r1 => K (r0, r1, ())))
theorem ct_attr_known_ok : SoundCt Try.prog f_attr_known ct_attr_known := ctBor_sound attr_known_fq
def pl_attr_others_3 : PLoop := ⟨[(3, PK.int .i64), (10, PK.int .i64)], [0, 8, 9], none⟩
def plan_attr_others : PPlan := ⟨[], [(3, pl_attr_others_3)], [], []⟩
theorem k_attr_others : Known Try.prog f_attr_others Try.f35 plan_attr_others.plan (bodyOf Try.f35) := ⟨Try.func35, by kernel_rfl, by kernel_rfl, by kernel_rfl, by kernel_rfl, by kernel_rfl⟩
abbrev attr_others_ps : List Pk := [Pk.lst [Kd.int .i64, Kd.lst [Kd.int .u8]]]
abbrev attr_others_rs : List Pk := [Pk.bool]
def attr_others_j0 (l0 : List (Int × List UInt8)) (x12 : Int × List UInt8) (x10 : Int) (next3 : (Int × Int × Unit) → Prop) (j6 : Bool) (K : Bool → Prop) : Prop :=
 IfB j6
 (K false)
 (next3 (x12.1, (IntKind.wrap .i64 (x10 + 1)), ()))
def attr_others_l3 (l0 : List (Int × List UInt8)) (last3 : Int) (x10 : Int) (next3 : (Int × Int × Unit) → Prop) (K : Bool → Prop) : Prop :=
 IfB (decide ((x10 : Int) < (l0.length : Int)))
 ((0 : Int) ≤ x10 ∧ AtN l0 x10.toNat fun x12 =>
 WfT ks_int_i64_lst_int_u8 x12 →
 (WfPs attr_known_ps (x12.1, ()) →
 attr_known_q x12.1 (fun x17r0 x17r1 =>
 WfPs attr_known_rs (x17r0, x17r1, ()) →
 IfB x17r1
 (attr_others_j0 l0 x12 x10 next3 true K)
 (IfB (decide ((x12.1 : Int) ≤ last3))
 (attr_others_j0 l0 x12 x10 next3 true K)
 (IfB (decide ((x12.1 : Int) > 255))
 (attr_others_j0 l0 x12 x10 next3 true K)
 (attr_others_j0 l0 x12 x10 next3 (decide (((x12.2.length : Int) : Int) > 255)) K))))))
 (K (decide (((l0.length : Int) : Int) ≤ 8)))
def attr_others_q (l0 : List (Int × List UInt8)) (K : Bool → Prop) : Prop :=
 LoopJ (Int × Int × Unit) (((-1) : Int), (0 : Int), ()) fun y next =>
 WfY pl_attr_others_3.kinds y →
 attr_others_l3 l0 y.1 y.2.1 next K
noncomputable def tab_attr_others : List (Nat × Ct) := [(f_attr_known, ct_attr_known)]
theorem attr_others_eq (l0 : List (Int × List UInt8)) (K : PkTs attr_others_rs → Prop) : attr_others_q l0 (fun r0 => K (r0, ())) = PCode Try.prog tab_attr_others plan_attr_others (bodyOf Try.f35) (parS attr_others_ps (l0, ())) (PRet Try.prog Try.f35.results.toList fun a st => outP attr_others_rs st a K) := by kernel_rfl
theorem attr_others_fq : FnQ Try.prog f_attr_others attr_others_ps attr_others_rs (fun x K => attr_others_q x.1 (fun r0 => K (r0, ()))) := (fnQ_of k_attr_others (tab := tab_attr_others) ⟨ct_attr_known_ok, trivial⟩ rfl).mono fun x K h => Eq.mp (attr_others_eq x.1 K) h
noncomputable def ct_attr_others : Ct := ctBor attr_others_ps attr_others_rs (fun x K => attr_others_q x.1 (fun r0 => K (r0, ())))
theorem ct_attr_others_ok : SoundCt Try.prog f_attr_others ct_attr_others := ctBor_sound attr_others_fq
def plan_attr_Check : PPlan := ⟨[], [], [], []⟩
theorem k_attr_Check : Known Try.prog f_attr_Check Try.f11 plan_attr_Check.plan (bodyOf Try.f11) := ⟨Try.func11, by kernel_rfl, by kernel_rfl, by kernel_rfl, by kernel_rfl, by kernel_rfl⟩
abbrev attr_Check_ps : List Pk := [Pk.agg [Kd.int .i64, Kd.lst [Kd.bool, Kd.lst [Kd.int .u32]], Kd.int .u32, Kd.bool, Kd.int .u32, Kd.bool, Kd.int .u32, Kd.bool, Kd.bool, Kd.int .u32, Kd.int .u32, Kd.lst [Kd.int .u32], Kd.lst [Kd.int .i64, Kd.lst [Kd.int .u8]]]]
abbrev attr_Check_rs : List Pk := [Pk.int .i64]
def attr_Check_j2 (j0 : Bool) (K : Int → Prop) : Prop :=
 IfB j0
 (K 2)
 (K 0)
def attr_Check_j1 (a0 : Int × List (Bool × List UInt32) × UInt32 × Bool × UInt32 × Bool × UInt32 × Bool × Bool × UInt32 × UInt32 × List UInt32 × List (Int × List UInt8)) (j13_1 : Bool) (K : Int → Prop) : Prop :=
 IfB j13_1
 (K 2)
 (IfB (decide (((a0.2.2.2.2.2.2.2.2.2.2.2.1.length : Int) : Int) > 32))
 (attr_Check_j2 true K)
 ((WfPs attr_others_ps (a0.2.2.2.2.2.2.2.2.2.2.2.2, ()) →
 attr_others_q a0.2.2.2.2.2.2.2.2.2.2.2.2 (fun x40 =>
 WfPs attr_others_rs (x40, ()) →
 attr_Check_j2 (!x40) K))))
def attr_Check_j0 (a0 : Int × List (Bool × List UInt32) × UInt32 × Bool × UInt32 × Bool × UInt32 × Bool × Bool × UInt32 × UInt32 × List UInt32 × List (Int × List UInt8)) (j13 : Bool) (K : Int → Prop) : Prop :=
 IfB j13
 (K 2)
 ((WfPs attr_hop_ps ((a0.2.2.1.toNat : Int), ()) →
 attr_hop_q (a0.2.2.1.toNat : Int) (fun x21 =>
 WfPs attr_hop_rs (x21, ()) →
 IfB (!x21)
 (attr_Check_j1 a0 true K)
 (IfB a0.2.2.2.2.2.2.2.2.1
 (attr_Check_j1 a0 (((a0.2.2.2.2.2.2.2.2.2.1.toNat : Int) : Int) == 0) K)
 (attr_Check_j1 a0 false K)))))
def attr_Check_q (a0 : Int × List (Bool × List UInt32) × UInt32 × Bool × UInt32 × Bool × UInt32 × Bool × Bool × UInt32 × UInt32 × List UInt32 × List (Int × List UInt8)) (K : Int → Prop) : Prop :=
 IfB (decide ((a0.1 : Int) < 0))
 (attr_Check_j0 a0 true K)
 (IfB (decide ((a0.1 : Int) > 2))
 (attr_Check_j0 a0 true K)
 ((WfPs path_Check_ps (a0.2.1, ()) →
 path_Check_q a0.2.1 (fun x15 =>
 WfPs path_Check_rs (x15, ()) →
 attr_Check_j0 a0 ((x15 : Int) != 0) K))))
noncomputable def tab_attr_Check : List (Nat × Ct) := [(f_path_Check, ct_path_Check), (f_attr_hop, ct_attr_hop), (f_attr_others, ct_attr_others)]
theorem attr_Check_eq (a0 : Int × List (Bool × List UInt32) × UInt32 × Bool × UInt32 × Bool × UInt32 × Bool × Bool × UInt32 × UInt32 × List UInt32 × List (Int × List UInt8)) (K : PkTs attr_Check_rs → Prop) : attr_Check_q a0 (fun r0 => K (r0, ())) = PCode Try.prog tab_attr_Check plan_attr_Check (bodyOf Try.f11) (parS attr_Check_ps (a0, ())) (PRet Try.prog Try.f11.results.toList fun a st => outP attr_Check_rs st a K) := by kernel_rfl
theorem attr_Check_fq : FnQ Try.prog f_attr_Check attr_Check_ps attr_Check_rs (fun x K => attr_Check_q x.1 (fun r0 => K (r0, ()))) := (fnQ_of k_attr_Check (tab := tab_attr_Check) ⟨ct_path_Check_ok, ct_attr_hop_ok, ct_attr_others_ok, trivial⟩ rfl).mono fun x K h => Eq.mp (attr_Check_eq x.1 K) h
noncomputable def ct_attr_Check : Ct := ctBor attr_Check_ps attr_Check_rs (fun x K => attr_Check_q x.1 (fun r0 => K (r0, ())))
theorem ct_attr_Check_ok : SoundCt Try.prog f_attr_Check ct_attr_Check := ctBor_sound attr_Check_fq
def plan_path_kind : PPlan := ⟨[], [], [], []⟩
theorem k_path_kind : Known Try.prog f_path_kind Try.f51 plan_path_kind.plan (bodyOf Try.f51) := ⟨Try.func51, by kernel_rfl, by kernel_rfl, by kernel_rfl, by kernel_rfl, by kernel_rfl⟩
abbrev path_kind_ps : List Pk := [Pk.agg [Kd.bool, Kd.lst [Kd.int .u32]]]
abbrev path_kind_rs : List Pk := [Pk.int .u8]
def path_kind_q (s0 : Bool × List UInt32) (K : Int → Prop) : Prop :=
 IfB s0.1
 (K 1)
 (K 2)
noncomputable def tab_path_kind : List (Nat × Ct) := []
theorem path_kind_eq (s0 : Bool × List UInt32) (K : PkTs path_kind_rs → Prop) : path_kind_q s0 (fun r0 => K (r0, ())) = PCode Try.prog tab_path_kind plan_path_kind (bodyOf Try.f51) (parS path_kind_ps (s0, ())) (PRet Try.prog Try.f51.results.toList fun a st => outP path_kind_rs st a K) := by kernel_rfl
theorem path_kind_fq : FnQ Try.prog f_path_kind path_kind_ps path_kind_rs (fun x K => path_kind_q x.1 (fun r0 => K (r0, ()))) := (fnQ_of k_path_kind (tab := tab_path_kind) trivial rfl).mono fun x K h => Eq.mp (path_kind_eq x.1 K) h
noncomputable def ct_path_kind : Ct := ctBor path_kind_ps path_kind_rs (fun x K => path_kind_q x.1 (fun r0 => K (r0, ())))
theorem ct_path_kind_ok : SoundCt Try.prog f_path_kind ct_path_kind := ctBor_sound path_kind_fq
def pl_path_Put_6 : PLoop := ⟨[(7, PK.row T_uint8 [Kd.int .u8]), (19, PK.int .i64)], [1, 17, 18], none⟩
def pl_path_Put_10 : PLoop := ⟨[(7, PK.row T_uint8 [Kd.int .u8]), (35, PK.int .i64)], [1, 17, 18, 19, 33, 34], none⟩
def plan_path_Put : PPlan := ⟨[(8, [0, 1, 3, 4, 5, 6, 2, 7, 8, 9], [27])], [(6, pl_path_Put_6), (10, pl_path_Put_10)], [], []⟩
theorem k_path_Put : Known Try.prog f_path_Put Try.f23 plan_path_Put.plan (bodyOf Try.f23) := ⟨Try.func23, by kernel_rfl, by kernel_rfl, by kernel_rfl, by kernel_rfl, by kernel_rfl⟩
abbrev path_Put_ps : List Pk := [Pk.lst [Kd.bool, Kd.lst [Kd.int .u32]], Pk.bool]
abbrev path_Put_rs : List Pk := [Pk.own T_uint8 [Kd.int .u8], Pk.int .i64]
def path_Put_j1 (four1 : Bool) (j1 : List UInt8) (j2 : Int) (p0 : List (Bool × List UInt32)) (x19 : Int) (x21 : Bool × List UInt32) (x35 : Int) (next6 : (List UInt8 × Int × Unit) → Prop) (next10 : (List UInt8 × Int × Unit) → Prop) (K : List UInt8 → Int → Prop) : Prop :=
 next10 ((j1 ++ ([(ofI .u8 (IntKind.wrap .u8 (Int.fdiv j2 256))), (ofI .u8 (IntKind.wrap .u8 j2))] : List UInt8)), (IntKind.wrap .i64 (x35 + 1)), ())
def path_Put_j0 (four1 : Bool) (p0 : List (Bool × List UInt32)) (x19 : Int) (x21 : Bool × List UInt32) (x35 : Int) (next6 : (List UInt8 × Int × Unit) → Prop) (next10 : (List UInt8 × Int × Unit) → Prop) (j1 : List UInt8) (j2 : Int) (K : List UInt8 → Int → Prop) : Prop :=
 (0 : Int) ≤ 8 ∧
 j1.length + ([(ofI .u8 (IntKind.wrap .u8 (Int.fdiv j2 256))), (ofI .u8 (IntKind.wrap .u8 j2))] : List UInt8).length ≤ 140737488355232 ∧
 path_Put_j1 four1 j1 j2 p0 x19 x21 x35 next6 next10 K
def path_Put_l10 (four1 : Bool) (p0 : List (Bool × List UInt32)) (x19 : Int) (x21 : Bool × List UInt32) (next6 : (List UInt8 × Int × Unit) → Prop) (b7_1 : List UInt8) (x35 : Int) (next10 : (List UInt8 × Int × Unit) → Prop) (K : List UInt8 → Int → Prop) : Prop :=
 IfB (decide ((x35 : Int) < (x21.2.length : Int)))
 ((0 : Int) ≤ x35 ∧ AtN x21.2 x35.toNat fun x37 =>
 WfT ks_int_u32 x37 →
 IfB four1
 ((0 : Int) ≤ 24 ∧
 (0 : Int) ≤ 16 ∧
 b7_1.length + ([(ofI .u8 (IntKind.wrap .u8 (Int.fdiv (x37.toNat : Int) 16777216))), (ofI .u8 (IntKind.wrap .u8 (Int.fdiv (x37.toNat : Int) 65536)))] : List UInt8).length ≤ 140737488355232 ∧
 path_Put_j0 four1 p0 x19 x21 x35 next6 next10 (b7_1 ++ ([(ofI .u8 (IntKind.wrap .u8 (Int.fdiv (x37.toNat : Int) 16777216))), (ofI .u8 (IntKind.wrap .u8 (Int.fdiv (x37.toNat : Int) 65536)))] : List UInt8)) (x37.toNat : Int) K)
 (IfB (decide (((x37.toNat : Int) : Int) > 65535))
 (path_Put_j0 four1 p0 x19 x21 x35 next6 next10 b7_1 23456 K)
 (path_Put_j0 four1 p0 x19 x21 x35 next6 next10 b7_1 (x37.toNat : Int) K)))
 (next6 (b7_1, (IntKind.wrap .i64 (x19 + 1)), ()))
def path_Put_l6 (four1 : Bool) (p0 : List (Bool × List UInt32)) (b7 : List UInt8) (x19 : Int) (next6 : (List UInt8 × Int × Unit) → Prop) (K : List UInt8 → Int → Prop) : Prop :=
 IfB (decide ((x19 : Int) < (p0.length : Int)))
 ((0 : Int) ≤ x19 ∧ AtN p0 x19.toNat fun x21 =>
 WfT ks_bool_lst_int_u32 x21 →
 (WfPs path_kind_ps (x21, ()) →
 path_kind_q x21 (fun x25 =>
 WfPs path_kind_rs (x25, ()) →
 b7.length + ([(ofI .u8 x25), (ofI .u8 (IntKind.wrap .u8 (x21.2.length : Int)))] : List UInt8).length ≤ 140737488355232 ∧
 LoopJ (List UInt8 × Int × Unit) ((b7 ++ ([(ofI .u8 x25), (ofI .u8 (IntKind.wrap .u8 (x21.2.length : Int)))] : List UInt8)), (0 : Int), ()) fun y next =>
 WfY pl_path_Put_10.kinds y →
 path_Put_l10 four1 p0 x19 x21 next6 y.1 y.2.1 next K)))
 (K b7 0)
def path_Put_q (p0 : List (Bool × List UInt32)) (four1 : Bool) (K : List UInt8 → Int → Prop) : Prop :=
 (WfPs path_Check_ps (p0, ()) →
 path_Check_q p0 (fun x13 =>
 WfPs path_Check_rs (x13, ()) →
 IfB ((x13 : Int) != 0)
 (K ([] : List UInt8) x13)
 (LoopJ (List UInt8 × Int × Unit) (([] : List UInt8), (0 : Int), ()) fun y next =>
 WfY pl_path_Put_6.kinds y →
 path_Put_l6 four1 p0 y.1 y.2.1 next K)))
noncomputable def tab_path_Put : List (Nat × Ct) := [(f_path_Check, ct_path_Check), (f_path_kind, ct_path_kind)]
theorem path_Put_eq (p0 : List (Bool × List UInt32)) (four1 : Bool) (K : PkTs path_Put_rs → Prop) : path_Put_q p0 four1 (fun r0 r1 => K (r0, r1, ())) = PCode Try.prog tab_path_Put plan_path_Put (bodyOf Try.f23) (parS path_Put_ps (p0, four1, ())) (PRet Try.prog Try.f23.results.toList fun a st => outP path_Put_rs st a K) := by kernel_rfl
theorem path_Put_fq : FnQ Try.prog f_path_Put path_Put_ps path_Put_rs (fun x K => path_Put_q x.1 x.2.1 (fun r0 r1 => K (r0, r1, ()))) := (fnQ_of k_path_Put (tab := tab_path_Put) ⟨ct_path_Check_ok, ct_path_kind_ok, trivial⟩ rfl).mono fun x K h => Eq.mp (path_Put_eq x.1 x.2.1 K) h
noncomputable def ct_path_Put : Ct := ctVal path_Put_ps path_Put_rs (fun x K => path_Put_q x.1 x.2.1 (fun r0 r1 => K (r0, r1, ())))
theorem ct_path_Put_ok : SoundCt Try.prog f_path_Put ct_path_Put := ctVal_sound path_Put_fq
def plan_slices_Growasl_byte_byte_at_nil : PPlan := ⟨[], [], [25], []⟩
theorem k_slices_Growasl_byte_byte_at_nil : Known Try.prog f_slices_Growasl_byte_byte Try.f70 plan_slices_Growasl_byte_byte_at_nil.plan (bodyOf Try.f70) := ⟨Try.func70, by kernel_rfl, by kernel_rfl, by kernel_rfl, by kernel_rfl, by kernel_rfl⟩
abbrev slices_Growasl_byte_byte_at_nil_ps : List Pk := [Pk.nil, Pk.int .i64]
abbrev slices_Growasl_byte_byte_at_nil_rs : List Pk := [Pk.own T_uint8 [Kd.int .u8]]
def slices_Growasl_byte_byte_at_nil_q (n1 : Int) (K : List UInt8 → Prop) : Prop :=
 IfB (decide ((n1 : Int) < 0))
 (False)
 (IfB (decide (((IntKind.wrap .i64 (n1 - (IntKind.wrap .i64 (0 - 0)))) : Int) > 0))
 ((0 : Int) ≤ 0 ∧ 0 ≤ (0 : Int) ∧
 (0 : Int) < (IntKind.wrap .i64 (n1 - (IntKind.wrap .i64 (0 - 0)))) ∧ (IntKind.wrap .i64 (n1 - (IntKind.wrap .i64 (0 - 0)))) ≤ 1000000000 ∧
 (0 : Int) ≤ 0 ∧ 0 ≤ ((List.replicate (IntKind.wrap .i64 (n1 - (IntKind.wrap .i64 (0 - 0)))).toNat ((ofI .u8 0) : UInt8)).length : Int) ∧
 K ((List.replicate (IntKind.wrap .i64 (n1 - (IntKind.wrap .i64 (0 - 0)))).toNat ((ofI .u8 0) : UInt8)).take 0))
 (K ([] : List UInt8)))
noncomputable def tab_slices_Growasl_byte_byte_at_nil : List (Nat × Ct) := []
theorem slices_Growasl_byte_byte_at_nil_eq (n1 : Int) (K : PkTs slices_Growasl_byte_byte_at_nil_rs → Prop) : slices_Growasl_byte_byte_at_nil_q n1 (fun r0 => K (r0, ())) = PCode Try.prog tab_slices_Growasl_byte_byte_at_nil plan_slices_Growasl_byte_byte_at_nil (bodyOf Try.f70) (parS slices_Growasl_byte_byte_at_nil_ps ((), n1, ())) (PRet Try.prog Try.f70.results.toList fun a st => outP slices_Growasl_byte_byte_at_nil_rs st a K) := by kernel_rfl
theorem slices_Growasl_byte_byte_at_nil_fq : FnQ Try.prog f_slices_Growasl_byte_byte slices_Growasl_byte_byte_at_nil_ps slices_Growasl_byte_byte_at_nil_rs (fun x K => slices_Growasl_byte_byte_at_nil_q x.2.1 (fun r0 => K (r0, ()))) := (fnQ_of k_slices_Growasl_byte_byte_at_nil (tab := tab_slices_Growasl_byte_byte_at_nil) trivial rfl).mono fun x K h => Eq.mp (slices_Growasl_byte_byte_at_nil_eq x.2.1 K) h
noncomputable def ct_slices_Growasl_byte_byte_at_nil : Ct := ctVal slices_Growasl_byte_byte_at_nil_ps slices_Growasl_byte_byte_at_nil_rs (fun x K => slices_Growasl_byte_byte_at_nil_q x.2.1 (fun r0 => K (r0, ())))
theorem ct_slices_Growasl_byte_byte_at_nil_ok : SoundCt Try.prog f_slices_Growasl_byte_byte ct_slices_Growasl_byte_byte_at_nil := ctVal_sound slices_Growasl_byte_byte_at_nil_fq
def pl_slices_Concatasl_byte_byte_3 : PLoop := ⟨[(3, PK.int .i64), (11, PK.int .i64)], [0, 9, 10], none⟩
def pl_slices_Concatasl_byte_byte_11 : PLoop := ⟨[(6, PK.row T_uint8 [Kd.int .u8]), (27, PK.int .i64)], [25, 26], none⟩
def plan_slices_Concatasl_byte_byte : PPlan := ⟨[], [(3, pl_slices_Concatasl_byte_byte_3), (11, pl_slices_Concatasl_byte_byte_11)], [], []⟩
theorem k_slices_Concatasl_byte_byte : Known Try.prog f_slices_Concatasl_byte_byte Try.f58 plan_slices_Concatasl_byte_byte.plan (bodyOf Try.f58) := ⟨Try.func58, by kernel_rfl, by kernel_rfl, by kernel_rfl, by kernel_rfl, by kernel_rfl⟩
abbrev slices_Concatasl_byte_byte_ps : List Pk := [Pk.lst [Kd.lst [Kd.int .u8]]]
abbrev slices_Concatasl_byte_byte_rs : List Pk := [Pk.own T_uint8 [Kd.int .u8]]
def slices_Concatasl_byte_byte_l11 (slices0 : List (List UInt8)) (newslice6 : List UInt8) (x27 : Int) (next11 : (List UInt8 × Int × Unit) → Prop) (K : List UInt8 → Prop) : Prop :=
 IfB (decide ((x27 : Int) < (slices0.length : Int)))
 ((0 : Int) ≤ x27 ∧ AtN slices0 x27.toNat fun x29 =>
 WfT ks_lst_int_u8 x29 →
 newslice6.length + x29.length ≤ 140737488355232 ∧
 next11 ((newslice6 ++ x29), (IntKind.wrap .i64 (x27 + 1)), ()))
 (K newslice6)
def slices_Concatasl_byte_byte_l3 (slices0 : List (List UInt8)) (size3 : Int) (x11 : Int) (next3 : (Int × Int × Unit) → Prop) (K : List UInt8 → Prop) : Prop :=
 IfB (decide ((x11 : Int) < (slices0.length : Int)))
 ((0 : Int) ≤ x11 ∧ AtN slices0 x11.toNat fun x13 =>
 WfT ks_lst_int_u8 x13 →
 IfB (decide (((IntKind.wrap .i64 (size3 + (x13.length : Int))) : Int) < 0))
 (False)
 (next3 ((IntKind.wrap .i64 (size3 + (x13.length : Int))), (IntKind.wrap .i64 (x11 + 1)), ())))
 ((WfPs slices_Growasl_byte_byte_at_nil_ps ((), size3, ()) →
 slices_Growasl_byte_byte_at_nil_q size3 (fun x24 =>
 WfPs slices_Growasl_byte_byte_at_nil_rs (x24, ()) →
 LoopJ (List UInt8 × Int × Unit) (x24, (0 : Int), ()) fun y next =>
 WfY pl_slices_Concatasl_byte_byte_11.kinds y →
 slices_Concatasl_byte_byte_l11 slices0 y.1 y.2.1 next K)))
def slices_Concatasl_byte_byte_q (slices0 : List (List UInt8)) (K : List UInt8 → Prop) : Prop :=
 LoopJ (Int × Int × Unit) ((0 : Int), (0 : Int), ()) fun y next =>
 WfY pl_slices_Concatasl_byte_byte_3.kinds y →
 slices_Concatasl_byte_byte_l3 slices0 y.1 y.2.1 next K
noncomputable def tab_slices_Concatasl_byte_byte : List (Nat × Ct) := [(f_slices_Growasl_byte_byte, ct_slices_Growasl_byte_byte_at_nil)]
theorem slices_Concatasl_byte_byte_eq (slices0 : List (List UInt8)) (K : PkTs slices_Concatasl_byte_byte_rs → Prop) : slices_Concatasl_byte_byte_q slices0 (fun r0 => K (r0, ())) = PCode Try.prog tab_slices_Concatasl_byte_byte plan_slices_Concatasl_byte_byte (bodyOf Try.f58) (parS slices_Concatasl_byte_byte_ps (slices0, ())) (PRet Try.prog Try.f58.results.toList fun a st => outP slices_Concatasl_byte_byte_rs st a K) := by kernel_rfl
theorem slices_Concatasl_byte_byte_fq : FnQ Try.prog f_slices_Concatasl_byte_byte slices_Concatasl_byte_byte_ps slices_Concatasl_byte_byte_rs (fun x K => slices_Concatasl_byte_byte_q x.1 (fun r0 => K (r0, ()))) := (fnQ_of k_slices_Concatasl_byte_byte (tab := tab_slices_Concatasl_byte_byte) ⟨ct_slices_Growasl_byte_byte_at_nil_ok, trivial⟩ rfl).mono fun x K h => Eq.mp (slices_Concatasl_byte_byte_eq x.1 K) h
noncomputable def ct_slices_Concatasl_byte_byte : Ct := ctVal slices_Concatasl_byte_byte_ps slices_Concatasl_byte_byte_rs (fun x K => slices_Concatasl_byte_byte_q x.1 (fun r0 => K (r0, ())))
theorem ct_slices_Concatasl_byte_byte_ok : SoundCt Try.prog f_slices_Concatasl_byte_byte ct_slices_Concatasl_byte_byte := ctVal_sound slices_Concatasl_byte_byte_fq
def plan_attr_writer_put : PPlan := ⟨[], [], [], []⟩
theorem k_attr_writer_put : Known Try.prog f_attr_writer_put Try.f28 plan_attr_writer_put.plan (bodyOf Try.f28) := ⟨Try.func28, by kernel_rfl, by kernel_rfl, by kernel_rfl, by kernel_rfl, by kernel_rfl⟩
abbrev attr_writer_put_ps : List Pk := [Pk.int .u8, Pk.int .i64, Pk.lst [Kd.lst [Kd.int .u8]]]
abbrev attr_writer_put_rs : List Pk := []
abbrev attr_writer_put_os : List PK := [PK.row T_uint8 [Kd.int .u8]]
def attr_writer_put_j0 (x11 : List UInt8) (j0 : List UInt8) (K : List UInt8 → Prop) : Prop :=
 j0.length + x11.length ≤ 140737488355232 ∧
 K (j0 ++ x11)
def attr_writer_put_q (c0 : List UInt8) (flags1 : Int) (kind2 : Int) (parts3 : List (List UInt8)) (K : List UInt8 → Prop) : Prop :=
 (WfPs slices_Concatasl_byte_byte_ps (parts3, ()) →
 slices_Concatasl_byte_byte_q parts3 (fun x11 =>
 WfPs slices_Concatasl_byte_byte_rs (x11, ()) →
 IfB (decide (((x11.length : Int) : Int) > 255))
 ((0 : Int) ≤ 8 ∧
 c0.length + ([(ofI .u8 (bitsOr .u8 flags1 16)), (ofI .u8 (IntKind.wrap .u8 kind2)), (ofI .u8 (IntKind.wrap .u8 (Int.fdiv (x11.length : Int) 256))), (ofI .u8 (IntKind.wrap .u8 (x11.length : Int)))] : List UInt8).length ≤ 140737488355232 ∧
 attr_writer_put_j0 x11 (c0 ++ ([(ofI .u8 (bitsOr .u8 flags1 16)), (ofI .u8 (IntKind.wrap .u8 kind2)), (ofI .u8 (IntKind.wrap .u8 (Int.fdiv (x11.length : Int) 256))), (ofI .u8 (IntKind.wrap .u8 (x11.length : Int)))] : List UInt8)) K)
 (c0.length + ([(ofI .u8 flags1), (ofI .u8 (IntKind.wrap .u8 kind2)), (ofI .u8 (IntKind.wrap .u8 (x11.length : Int)))] : List UInt8).length ≤ 140737488355232 ∧
 attr_writer_put_j0 x11 (c0 ++ ([(ofI .u8 flags1), (ofI .u8 (IntKind.wrap .u8 kind2)), (ofI .u8 (IntKind.wrap .u8 (x11.length : Int)))] : List UInt8)) K)))
noncomputable def tab_attr_writer_put : List (Nat × Ct) := [(f_slices_Concatasl_byte_byte, ct_slices_Concatasl_byte_byte)]
theorem attr_writer_put_eq (c0 : List UInt8) (flags1 : Int) (kind2 : Int) (parts3 : List (List UInt8)) (K : PTup attr_writer_put_os → PkTs attr_writer_put_rs → Prop) : attr_writer_put_q c0 flags1 kind2 parts3 (fun o0 => K (o0, ()) (())) = PCode Try.prog tab_attr_writer_put plan_attr_writer_put (bodyOf Try.f28) (parO T_attr_writer attr_writer_put_os attr_writer_put_ps (c0, ()) (flags1, kind2, parts3, ())) (PRet Try.prog Try.f28.results.toList fun a st => outO T_attr_writer attr_writer_put_os attr_writer_put_rs st a K) := by kernel_rfl
theorem attr_writer_put_fq : FnO Try.prog f_attr_writer_put T_attr_writer attr_writer_put_os attr_writer_put_ps attr_writer_put_rs (fun o x K => attr_writer_put_q o.1 x.1 x.2.1 x.2.2.1 (fun o0 => K (o0, ()) (()))) := (fnO_of k_attr_writer_put (tab := tab_attr_writer_put) ⟨ct_slices_Concatasl_byte_byte_ok, trivial⟩ rfl).mono fun o x K h => Eq.mp (attr_writer_put_eq o.1 x.1 x.2.1 x.2.2.1 K) h
noncomputable def ct_attr_writer_put : Ct := ctObj T_attr_writer attr_writer_put_os attr_writer_put_ps attr_writer_put_rs (fun o x K => attr_writer_put_q o.1 x.1 x.2.1 x.2.2.1 (fun o0 => K (o0, ()) (())))
theorem ct_attr_writer_put_ok : SoundCt Try.prog f_attr_writer_put ct_attr_writer_put := ctObj_sound attr_writer_put_fq
def plan_attr_writer_usual : PPlan := ⟨[], [], [], []⟩
theorem k_attr_writer_usual : Known Try.prog f_attr_writer_usual Try.f24 plan_attr_writer_usual.plan (bodyOf Try.f24) := ⟨Try.func24, by kernel_rfl, by kernel_rfl, by kernel_rfl, by kernel_rfl, by kernel_rfl⟩
abbrev attr_writer_usual_ps : List Pk := [Pk.int .i64, Pk.lst [Kd.lst [Kd.int .u8]]]
abbrev attr_writer_usual_rs : List Pk := []
abbrev attr_writer_usual_os : List PK := [PK.row T_uint8 [Kd.int .u8]]
def attr_writer_usual_q (c0 : List UInt8) (kind1 : Int) (parts2 : List (List UInt8)) (K : List UInt8 → Prop) : Prop :=
 (WfPs attr_known_ps (kind1, ()) →
 attr_known_q kind1 (fun x10r0 x10r1 =>
 WfPs attr_known_rs (x10r0, x10r1, ()) →
 (WfY attr_writer_put_os (c0, ()) →
 WfPs attr_writer_put_ps (x10r0, kind1, parts2, ()) →
 attr_writer_put_q c0 x10r0 kind1 parts2 (fun ox170 =>
 WfY attr_writer_put_os (ox170, ()) →
 WfPs attr_writer_put_rs () →
 K ox170))))
noncomputable def tab_attr_writer_usual : List (Nat × Ct) := [(f_attr_writer_put, ct_attr_writer_put), (f_attr_known, ct_attr_known)]
theorem attr_writer_usual_eq (c0 : List UInt8) (kind1 : Int) (parts2 : List (List UInt8)) (K : PTup attr_writer_usual_os → PkTs attr_writer_usual_rs → Prop) : attr_writer_usual_q c0 kind1 parts2 (fun o0 => K (o0, ()) (())) = PCode Try.prog tab_attr_writer_usual plan_attr_writer_usual (bodyOf Try.f24) (parO T_attr_writer attr_writer_usual_os attr_writer_usual_ps (c0, ()) (kind1, parts2, ())) (PRet Try.prog Try.f24.results.toList fun a st => outO T_attr_writer attr_writer_usual_os attr_writer_usual_rs st a K) := by kernel_rfl
theorem attr_writer_usual_fq : FnO Try.prog f_attr_writer_usual T_attr_writer attr_writer_usual_os attr_writer_usual_ps attr_writer_usual_rs (fun o x K => attr_writer_usual_q o.1 x.1 x.2.1 (fun o0 => K (o0, ()) (()))) := (fnO_of k_attr_writer_usual (tab := tab_attr_writer_usual) ⟨ct_attr_writer_put_ok, ct_attr_known_ok, trivial⟩ rfl).mono fun o x K h => Eq.mp (attr_writer_usual_eq o.1 x.1 x.2.1 K) h
noncomputable def ct_attr_writer_usual : Ct := ctObj T_attr_writer attr_writer_usual_os attr_writer_usual_ps attr_writer_usual_rs (fun o x K => attr_writer_usual_q o.1 x.1 x.2.1 (fun o0 => K (o0, ()) (())))
theorem ct_attr_writer_usual_ok : SoundCt Try.prog f_attr_writer_usual ct_attr_writer_usual := ctObj_sound attr_writer_usual_fq
def plan_attr_num : PPlan := ⟨[], [], [], []⟩
theorem k_attr_num : Known Try.prog f_attr_num Try.f25 plan_attr_num.plan (bodyOf Try.f25) := ⟨Try.func25, by kernel_rfl, by kernel_rfl, by kernel_rfl, by kernel_rfl, by kernel_rfl⟩
abbrev attr_num_ps : List Pk := [Pk.int .u32]
abbrev attr_num_rs : List Pk := [Pk.own T_uint8 [Kd.int .u8]]
def attr_num_q (n0 : Int) (K : List UInt8 → Prop) : Prop :=
 (0 : Int) ≤ 24 ∧
 (0 : Int) ≤ 16 ∧
 (0 : Int) ≤ 8 ∧
 K ([(ofI .u8 (IntKind.wrap .u8 (Int.fdiv n0 16777216))), (ofI .u8 (IntKind.wrap .u8 (Int.fdiv n0 65536))), (ofI .u8 (IntKind.wrap .u8 (Int.fdiv n0 256))), (ofI .u8 (IntKind.wrap .u8 n0))] : List UInt8)
noncomputable def tab_attr_num : List (Nat × Ct) := []
theorem attr_num_eq (n0 : Int) (K : PkTs attr_num_rs → Prop) : attr_num_q n0 (fun r0 => K (r0, ())) = PCode Try.prog tab_attr_num plan_attr_num (bodyOf Try.f25) (parS attr_num_ps (n0, ())) (PRet Try.prog Try.f25.results.toList fun a st => outP attr_num_rs st a K) := by kernel_rfl
theorem attr_num_fq : FnQ Try.prog f_attr_num attr_num_ps attr_num_rs (fun x K => attr_num_q x.1 (fun r0 => K (r0, ()))) := (fnQ_of k_attr_num (tab := tab_attr_num) trivial rfl).mono fun x K h => Eq.mp (attr_num_eq x.1 K) h
noncomputable def ct_attr_num : Ct := ctVal attr_num_ps attr_num_rs (fun x K => attr_num_q x.1 (fun r0 => K (r0, ())))
theorem ct_attr_num_ok : SoundCt Try.prog f_attr_num ct_attr_num := ctVal_sound attr_num_fq
def plan_attr_system : PPlan := ⟨[], [], [], []⟩
theorem k_attr_system : Known Try.prog f_attr_system Try.f53 plan_attr_system.plan (bodyOf Try.f53) := ⟨Try.func53, by kernel_rfl, by kernel_rfl, by kernel_rfl, by kernel_rfl, by kernel_rfl⟩
abbrev attr_system_ps : List Pk := [Pk.int .u32, Pk.bool]
abbrev attr_system_rs : List Pk := [Pk.lst [Kd.int .u8]]
def attr_system_j0 (j0 : Int) (K : List UInt8 → Prop) : Prop :=
 (WfPs attr_num_ps (j0, ()) →
 attr_num_q j0 (fun x13 =>
 WfPs attr_num_rs (x13, ()) →
 (0 : Int) ≤ 2 ∧ 2 ≤ (x13.length : Int) ∧
 K (x13.drop 2)))
def attr_system_q (as0 : Int) (four1 : Bool) (K : List UInt8 → Prop) : Prop :=
 IfB four1
 ((WfPs attr_num_ps (as0, ()) →
 attr_num_q as0 (fun x8 =>
 WfPs attr_num_rs (x8, ()) →
 K x8)))
 (IfB (decide ((as0 : Int) > 65535))
 (attr_system_j0 23456 K)
 (attr_system_j0 as0 K))
noncomputable def tab_attr_system : List (Nat × Ct) := [(f_attr_num, ct_attr_num)]
theorem attr_system_eq (as0 : Int) (four1 : Bool) (K : PkTs attr_system_rs → Prop) : attr_system_q as0 four1 (fun r0 => K (r0, ())) = PCode Try.prog tab_attr_system plan_attr_system (bodyOf Try.f53) (parS attr_system_ps (as0, four1, ())) (PRet Try.prog Try.f53.results.toList fun a st => outP attr_system_rs st a K) := by kernel_rfl
theorem attr_system_fq : FnQ Try.prog f_attr_system attr_system_ps attr_system_rs (fun x K => attr_system_q x.1 x.2.1 (fun r0 => K (r0, ()))) := (fnQ_of k_attr_system (tab := tab_attr_system) ⟨ct_attr_num_ok, trivial⟩ rfl).mono fun x K h => Eq.mp (attr_system_eq x.1 x.2.1 K) h
noncomputable def ct_attr_system : Ct := ctVal attr_system_ps attr_system_rs (fun x K => attr_system_q x.1 x.2.1 (fun r0 => K (r0, ())))
theorem ct_attr_system_ok : SoundCt Try.prog f_attr_system ct_attr_system := ctVal_sound attr_system_fq
def pl_attr_writer_perhaps_10 : PLoop := ⟨[(6, PK.row T_sl_uint8 [Kd.lst [Kd.int .u8]]), (40, PK.int .i64)], [0, 38, 39], none⟩
def plan_attr_writer_perhaps : PPlan := ⟨[(6, [0, 1, 2, 3, 5, 6, 4, 7, 8, 9], [29])], [(10, pl_attr_writer_perhaps_10)], [], []⟩
theorem k_attr_writer_perhaps : Known Try.prog f_attr_writer_perhaps Try.f26 plan_attr_writer_perhaps.plan (bodyOf Try.f26) := ⟨Try.func26, by kernel_rfl, by kernel_rfl, by kernel_rfl, by kernel_rfl, by kernel_rfl⟩
abbrev attr_writer_perhaps_ps : List Pk := [Pk.agg [Kd.int .i64, Kd.lst [Kd.bool, Kd.lst [Kd.int .u32]], Kd.int .u32, Kd.bool, Kd.int .u32, Kd.bool, Kd.int .u32, Kd.bool, Kd.bool, Kd.int .u32, Kd.int .u32, Kd.lst [Kd.int .u32], Kd.lst [Kd.int .i64, Kd.lst [Kd.int .u8]]], Pk.bool]
abbrev attr_writer_perhaps_rs : List Pk := []
abbrev attr_writer_perhaps_os : List PK := [PK.row T_uint8 [Kd.int .u8]]
def attr_writer_perhaps_l10 (j0_2 : List UInt8) (a1 : Int × List (Bool × List UInt32) × UInt32 × Bool × UInt32 × Bool × UInt32 × Bool × Bool × UInt32 × UInt32 × List UInt32 × List (Int × List UInt8)) (l6 : List (List UInt8)) (x40 : Int) (next10 : (List (List UInt8) × Int × Unit) → Prop) (K : List UInt8 → Prop) : Prop :=
 IfB (decide ((x40 : Int) < (a1.2.2.2.2.2.2.2.2.2.2.2.1.length : Int)))
 ((0 : Int) ≤ x40 ∧ AtN a1.2.2.2.2.2.2.2.2.2.2.2.1 x40.toNat fun x42 =>
 WfT ks_int_u32 x42 →
 (WfPs attr_num_ps ((x42.toNat : Int), ()) →
 attr_num_q (x42.toNat : Int) (fun x46 =>
 WfPs attr_num_rs (x46, ()) →
 l6.length + ([x46] : List (List UInt8)).length ≤ 5864062014709 ∧
 next10 ((l6 ++ ([x46] : List (List UInt8))), (IntKind.wrap .i64 (x40 + 1)), ()))))
 ((WfY attr_writer_usual_os (j0_2, ()) →
 WfPs attr_writer_usual_ps ((8 : Int), l6, ()) →
 attr_writer_usual_q j0_2 (8 : Int) l6 (fun ox520 =>
 WfY attr_writer_usual_os (ox520, ()) →
 WfPs attr_writer_usual_rs () →
 K ox520)))
def attr_writer_perhaps_j2 (a1 : Int × List (Bool × List UInt32) × UInt32 × Bool × UInt32 × Bool × UInt32 × Bool × Bool × UInt32 × UInt32 × List UInt32 × List (Int × List UInt8)) (j0_2 : List UInt8) (K : List UInt8 → Prop) : Prop :=
 IfB (decide (((a1.2.2.2.2.2.2.2.2.2.2.2.1.length : Int) : Int) > 0))
 (LoopJ (List (List UInt8) × Int × Unit) (([] : List (List UInt8)), (0 : Int), ()) fun y next =>
 WfY pl_attr_writer_perhaps_10.kinds y →
 attr_writer_perhaps_l10 j0_2 a1 y.1 y.2.1 next K)
 (K j0_2)
def attr_writer_perhaps_j1 (four2 : Bool) (a1 : Int × List (Bool × List UInt32) × UInt32 × Bool × UInt32 × Bool × UInt32 × Bool × Bool × UInt32 × UInt32 × List UInt32 × List (Int × List UInt8)) (j0_1 : List UInt8) (K : List UInt8 → Prop) : Prop :=
 IfB a1.2.2.2.2.2.2.2.2.1
 ((WfPs attr_system_ps ((a1.2.2.2.2.2.2.2.2.2.1.toNat : Int), four2, ()) →
 attr_system_q (a1.2.2.2.2.2.2.2.2.2.1.toNat : Int) four2 (fun x27 =>
 WfPs attr_system_rs (x27, ()) →
 (WfPs attr_num_ps ((a1.2.2.2.2.2.2.2.2.2.2.1.toNat : Int), ()) →
 attr_num_q (a1.2.2.2.2.2.2.2.2.2.2.1.toNat : Int) (fun x30 =>
 WfPs attr_num_rs (x30, ()) →
 (WfY attr_writer_usual_os (j0_1, ()) →
 WfPs attr_writer_usual_ps ((7 : Int), ([x27, x30] : List (List UInt8)), ()) →
 attr_writer_usual_q j0_1 (7 : Int) ([x27, x30] : List (List UInt8)) (fun ox320 =>
 WfY attr_writer_usual_os (ox320, ()) →
 WfPs attr_writer_usual_rs () →
 attr_writer_perhaps_j2 a1 ox320 K)))))))
 (attr_writer_perhaps_j2 a1 j0_1 K)
def attr_writer_perhaps_j0 (four2 : Bool) (a1 : Int × List (Bool × List UInt32) × UInt32 × Bool × UInt32 × Bool × UInt32 × Bool × Bool × UInt32 × UInt32 × List UInt32 × List (Int × List UInt8)) (j0 : List UInt8) (K : List UInt8 → Prop) : Prop :=
 IfB a1.2.2.2.2.2.2.2.1
 ((WfY attr_writer_usual_os (j0, ()) →
 WfPs attr_writer_usual_ps ((6 : Int), ([] : List (List UInt8)), ()) →
 attr_writer_usual_q j0 (6 : Int) ([] : List (List UInt8)) (fun ox200 =>
 WfY attr_writer_usual_os (ox200, ()) →
 WfPs attr_writer_usual_rs () →
 attr_writer_perhaps_j1 four2 a1 ox200 K)))
 (attr_writer_perhaps_j1 four2 a1 j0 K)
def attr_writer_perhaps_q (c0 : List UInt8) (a1 : Int × List (Bool × List UInt32) × UInt32 × Bool × UInt32 × Bool × UInt32 × Bool × Bool × UInt32 × UInt32 × List UInt32 × List (Int × List UInt8)) (four2 : Bool) (K : List UInt8 → Prop) : Prop :=
 IfB a1.2.2.2.1
 ((WfPs attr_num_ps ((a1.2.2.2.2.1.toNat : Int), ()) →
 attr_num_q (a1.2.2.2.2.1.toNat : Int) (fun x14 =>
 WfPs attr_num_rs (x14, ()) →
 (WfY attr_writer_usual_os (c0, ()) →
 WfPs attr_writer_usual_ps ((4 : Int), ([x14] : List (List UInt8)), ()) →
 attr_writer_usual_q c0 (4 : Int) ([x14] : List (List UInt8)) (fun ox160 =>
 WfY attr_writer_usual_os (ox160, ()) →
 WfPs attr_writer_usual_rs () →
 attr_writer_perhaps_j0 four2 a1 ox160 K)))))
 (attr_writer_perhaps_j0 four2 a1 c0 K)
noncomputable def tab_attr_writer_perhaps : List (Nat × Ct) := [(f_attr_writer_usual, ct_attr_writer_usual), (f_attr_num, ct_attr_num), (f_attr_system, ct_attr_system)]
theorem attr_writer_perhaps_eq (c0 : List UInt8) (a1 : Int × List (Bool × List UInt32) × UInt32 × Bool × UInt32 × Bool × UInt32 × Bool × Bool × UInt32 × UInt32 × List UInt32 × List (Int × List UInt8)) (four2 : Bool) (K : PTup attr_writer_perhaps_os → PkTs attr_writer_perhaps_rs → Prop) : attr_writer_perhaps_q c0 a1 four2 (fun o0 => K (o0, ()) (())) = PCode Try.prog tab_attr_writer_perhaps plan_attr_writer_perhaps (bodyOf Try.f26) (parO T_attr_writer attr_writer_perhaps_os attr_writer_perhaps_ps (c0, ()) (a1, four2, ())) (PRet Try.prog Try.f26.results.toList fun a st => outO T_attr_writer attr_writer_perhaps_os attr_writer_perhaps_rs st a K) := by kernel_rfl
theorem attr_writer_perhaps_fq : FnO Try.prog f_attr_writer_perhaps T_attr_writer attr_writer_perhaps_os attr_writer_perhaps_ps attr_writer_perhaps_rs (fun o x K => attr_writer_perhaps_q o.1 x.1 x.2.1 (fun o0 => K (o0, ()) (()))) := (fnO_of k_attr_writer_perhaps (tab := tab_attr_writer_perhaps) ⟨ct_attr_writer_usual_ok, ct_attr_num_ok, ct_attr_system_ok, trivial⟩ rfl).mono fun o x K h => Eq.mp (attr_writer_perhaps_eq o.1 x.1 x.2.1 K) h
noncomputable def ct_attr_writer_perhaps : Ct := ctObj T_attr_writer attr_writer_perhaps_os attr_writer_perhaps_ps attr_writer_perhaps_rs (fun o x K => attr_writer_perhaps_q o.1 x.1 x.2.1 (fun o0 => K (o0, ()) (())))
theorem ct_attr_writer_perhaps_ok : SoundCt Try.prog f_attr_writer_perhaps ct_attr_writer_perhaps := ctObj_sound attr_writer_perhaps_fq
def plan_attr_great_1_1 : PPlan := ⟨[], [], [], []⟩
theorem k_attr_great_1_1 : Known Try.prog f_attr_great_1_1 Try.f57 plan_attr_great_1_1.plan (bodyOf Try.f57) := ⟨Try.func57, by kernel_rfl, by kernel_rfl, by kernel_rfl, by kernel_rfl, by kernel_rfl⟩
abbrev attr_great_1_1_ps : List Pk := [Pk.int .u32]
abbrev attr_great_1_1_rs : List Pk := [Pk.bool]
def attr_great_1_1_q (as0 : Int) (K : Bool → Prop) : Prop :=
 K (decide ((as0 : Int) > 65535))
noncomputable def tab_attr_great_1_1 : List (Nat × Ct) := []
theorem attr_great_1_1_eq (as0 : Int) (K : PkTs attr_great_1_1_rs → Prop) : attr_great_1_1_q as0 (fun r0 => K (r0, ())) = PCode Try.prog tab_attr_great_1_1 plan_attr_great_1_1 (bodyOf Try.f57) (parS attr_great_1_1_ps (as0, ())) (PRet Try.prog Try.f57.results.toList fun a st => outP attr_great_1_1_rs st a K) := by kernel_rfl
theorem attr_great_1_1_fq : FnQ Try.prog f_attr_great_1_1 attr_great_1_1_ps attr_great_1_1_rs (fun x K => attr_great_1_1_q x.1 (fun r0 => K (r0, ()))) := (fnQ_of k_attr_great_1_1 (tab := tab_attr_great_1_1) trivial rfl).mono fun x K h => Eq.mp (attr_great_1_1_eq x.1 K) h
noncomputable def ct_attr_great_1_1 : Ct := ctBor attr_great_1_1_ps attr_great_1_1_rs (fun x K => attr_great_1_1_q x.1 (fun r0 => K (r0, ())))
theorem ct_attr_great_1_1_ok : SoundCt Try.prog f_attr_great_1_1 ct_attr_great_1_1 := ctBor_sound attr_great_1_1_fq
def pl_slices_IndexFuncasl_uint32_uint32_at_attr_great_1_1_2 : PLoop := ⟨[(8, PK.int .i64)], [0, 1, 7], none⟩
def plan_slices_IndexFuncasl_uint32_uint32_at_attr_great_1_1 : PPlan := ⟨[], [(2, pl_slices_IndexFuncasl_uint32_uint32_at_attr_great_1_1_2)], [], []⟩
theorem k_slices_IndexFuncasl_uint32_uint32_at_attr_great_1_1 : Known Try.prog f_slices_IndexFuncasl_uint32_uint32 Try.f69 plan_slices_IndexFuncasl_uint32_uint32_at_attr_great_1_1.plan (bodyOf Try.f69) := ⟨Try.func69, by kernel_rfl, by kernel_rfl, by kernel_rfl, by kernel_rfl, by kernel_rfl⟩
abbrev slices_IndexFuncasl_uint32_uint32_at_attr_great_1_1_ps : List Pk := [Pk.lst [Kd.int .u32], Pk.fn 57]
abbrev slices_IndexFuncasl_uint32_uint32_at_attr_great_1_1_rs : List Pk := [Pk.int .i64]
def slices_IndexFuncasl_uint32_uint32_at_attr_great_1_1_l2 (s0 : List UInt32) (x8 : Int) (next2 : (Int × Unit) → Prop) (K : Int → Prop) : Prop :=
 IfB (decide ((x8 : Int) < (s0.length : Int)))
 ((0 : Int) ≤ x8 ∧ AtN s0 x8.toNat fun x14 =>
 WfT ks_int_u32 x14 →
 (WfPs attr_great_1_1_ps ((x14.toNat : Int), ()) →
 attr_great_1_1_q (x14.toNat : Int) (fun x16 =>
 WfPs attr_great_1_1_rs (x16, ()) →
 IfB x16
 (K x8)
 (next2 ((IntKind.wrap .i64 (x8 + 1)), ())))))
 (K (-1))
def slices_IndexFuncasl_uint32_uint32_at_attr_great_1_1_q (s0 : List UInt32) (K : Int → Prop) : Prop :=
 LoopJ (Int × Unit) ((0 : Int), ()) fun y next =>
 WfY pl_slices_IndexFuncasl_uint32_uint32_at_attr_great_1_1_2.kinds y →
 slices_IndexFuncasl_uint32_uint32_at_attr_great_1_1_l2 s0 y.1 next K
noncomputable def tab_slices_IndexFuncasl_uint32_uint32_at_attr_great_1_1 : List (Nat × Ct) := [(f_attr_great_1_1, ct_attr_great_1_1)]
theorem slices_IndexFuncasl_uint32_uint32_at_attr_great_1_1_eq (s0 : List UInt32) (K : PkTs slices_IndexFuncasl_uint32_uint32_at_attr_great_1_1_rs → Prop) : slices_IndexFuncasl_uint32_uint32_at_attr_great_1_1_q s0 (fun r0 => K (r0, ())) = PCode Try.prog tab_slices_IndexFuncasl_uint32_uint32_at_attr_great_1_1 plan_slices_IndexFuncasl_uint32_uint32_at_attr_great_1_1 (bodyOf Try.f69) (parS slices_IndexFuncasl_uint32_uint32_at_attr_great_1_1_ps (s0, (), ())) (PRet Try.prog Try.f69.results.toList fun a st => outP slices_IndexFuncasl_uint32_uint32_at_attr_great_1_1_rs st a K) := by kernel_rfl
theorem slices_IndexFuncasl_uint32_uint32_at_attr_great_1_1_fq : FnQ Try.prog f_slices_IndexFuncasl_uint32_uint32 slices_IndexFuncasl_uint32_uint32_at_attr_great_1_1_ps slices_IndexFuncasl_uint32_uint32_at_attr_great_1_1_rs (fun x K => slices_IndexFuncasl_uint32_uint32_at_attr_great_1_1_q x.1 (fun r0 => K (r0, ()))) := (fnQ_of k_slices_IndexFuncasl_uint32_uint32_at_attr_great_1_1 (tab := tab_slices_IndexFuncasl_uint32_uint32_at_attr_great_1_1) ⟨ct_attr_great_1_1_ok, trivial⟩ rfl).mono fun x K h => Eq.mp (slices_IndexFuncasl_uint32_uint32_at_attr_great_1_1_eq x.1 K) h
noncomputable def ct_slices_IndexFuncasl_uint32_uint32_at_attr_great_1_1 : Ct := ctBor slices_IndexFuncasl_uint32_uint32_at_attr_great_1_1_ps slices_IndexFuncasl_uint32_uint32_at_attr_great_1_1_rs (fun x K => slices_IndexFuncasl_uint32_uint32_at_attr_great_1_1_q x.1 (fun r0 => K (r0, ())))
theorem ct_slices_IndexFuncasl_uint32_uint32_at_attr_great_1_1_ok : SoundCt Try.prog f_slices_IndexFuncasl_uint32_uint32 ct_slices_IndexFuncasl_uint32_uint32_at_attr_great_1_1 := ctBor_sound slices_IndexFuncasl_uint32_uint32_at_attr_great_1_1_fq
def plan_slices_ContainsFuncasl_uint32_uint32_at_attr_great_1_1 : PPlan := ⟨[], [], [], []⟩
theorem k_slices_ContainsFuncasl_uint32_uint32_at_attr_great_1_1 : Known Try.prog f_slices_ContainsFuncasl_uint32_uint32 Try.f56 plan_slices_ContainsFuncasl_uint32_uint32_at_attr_great_1_1.plan (bodyOf Try.f56) := ⟨Try.func56, by kernel_rfl, by kernel_rfl, by kernel_rfl, by kernel_rfl, by kernel_rfl⟩
abbrev slices_ContainsFuncasl_uint32_uint32_at_attr_great_1_1_ps : List Pk := [Pk.lst [Kd.int .u32], Pk.fn 57]
abbrev slices_ContainsFuncasl_uint32_uint32_at_attr_great_1_1_rs : List Pk := [Pk.bool]
def slices_ContainsFuncasl_uint32_uint32_at_attr_great_1_1_q (s0 : List UInt32) (K : Bool → Prop) : Prop :=
 (WfPs slices_IndexFuncasl_uint32_uint32_at_attr_great_1_1_ps (s0, (), ()) →
 slices_IndexFuncasl_uint32_uint32_at_attr_great_1_1_q s0 (fun x7 =>
 WfPs slices_IndexFuncasl_uint32_uint32_at_attr_great_1_1_rs (x7, ()) →
 K (decide ((x7 : Int) ≥ 0))))
noncomputable def tab_slices_ContainsFuncasl_uint32_uint32_at_attr_great_1_1 : List (Nat × Ct) := [(f_slices_IndexFuncasl_uint32_uint32, ctDisp 1 [(f_attr_great_1_1, ct_slices_IndexFuncasl_uint32_uint32_at_attr_great_1_1)])]
theorem slices_ContainsFuncasl_uint32_uint32_at_attr_great_1_1_eq (s0 : List UInt32) (K : PkTs slices_ContainsFuncasl_uint32_uint32_at_attr_great_1_1_rs → Prop) : slices_ContainsFuncasl_uint32_uint32_at_attr_great_1_1_q s0 (fun r0 => K (r0, ())) = PCode Try.prog tab_slices_ContainsFuncasl_uint32_uint32_at_attr_great_1_1 plan_slices_ContainsFuncasl_uint32_uint32_at_attr_great_1_1 (bodyOf Try.f56) (parS slices_ContainsFuncasl_uint32_uint32_at_attr_great_1_1_ps (s0, (), ())) (PRet Try.prog Try.f56.results.toList fun a st => outP slices_ContainsFuncasl_uint32_uint32_at_attr_great_1_1_rs st a K) := by kernel_rfl
theorem slices_ContainsFuncasl_uint32_uint32_at_attr_great_1_1_fq : FnQ Try.prog f_slices_ContainsFuncasl_uint32_uint32 slices_ContainsFuncasl_uint32_uint32_at_attr_great_1_1_ps slices_ContainsFuncasl_uint32_uint32_at_attr_great_1_1_rs (fun x K => slices_ContainsFuncasl_uint32_uint32_at_attr_great_1_1_q x.1 (fun r0 => K (r0, ()))) := (fnQ_of k_slices_ContainsFuncasl_uint32_uint32_at_attr_great_1_1 (tab := tab_slices_ContainsFuncasl_uint32_uint32_at_attr_great_1_1) ⟨ctDisp_sound ⟨ct_slices_IndexFuncasl_uint32_uint32_at_attr_great_1_1_ok, trivial⟩, trivial⟩ rfl).mono fun x K h => Eq.mp (slices_ContainsFuncasl_uint32_uint32_at_attr_great_1_1_eq x.1 K) h
noncomputable def ct_slices_ContainsFuncasl_uint32_uint32_at_attr_great_1_1 : Ct := ctBor slices_ContainsFuncasl_uint32_uint32_at_attr_great_1_1_ps slices_ContainsFuncasl_uint32_uint32_at_attr_great_1_1_rs (fun x K => slices_ContainsFuncasl_uint32_uint32_at_attr_great_1_1_q x.1 (fun r0 => K (r0, ())))
theorem ct_slices_ContainsFuncasl_uint32_uint32_at_attr_great_1_1_ok : SoundCt Try.prog f_slices_ContainsFuncasl_uint32_uint32 ct_slices_ContainsFuncasl_uint32_uint32_at_attr_great_1_1 := ctBor_sound slices_ContainsFuncasl_uint32_uint32_at_attr_great_1_1_fq
def plan_attr_great_1 : PPlan := ⟨[], [], [], []⟩
theorem k_attr_great_1 : Known Try.prog f_attr_great_1 Try.f55 plan_attr_great_1.plan (bodyOf Try.f55) := ⟨Try.func55, by kernel_rfl, by kernel_rfl, by kernel_rfl, by kernel_rfl, by kernel_rfl⟩
abbrev attr_great_1_ps : List Pk := [Pk.agg [Kd.bool, Kd.lst [Kd.int .u32]]]
abbrev attr_great_1_rs : List Pk := [Pk.bool]
def attr_great_1_q (s0 : Bool × List UInt32) (K : Bool → Prop) : Prop :=
 (WfPs slices_ContainsFuncasl_uint32_uint32_at_attr_great_1_1_ps (s0.2, (), ()) →
 slices_ContainsFuncasl_uint32_uint32_at_attr_great_1_1_q s0.2 (fun x5 =>
 WfPs slices_ContainsFuncasl_uint32_uint32_at_attr_great_1_1_rs (x5, ()) →
 K x5))
noncomputable def tab_attr_great_1 : List (Nat × Ct) := [(f_slices_ContainsFuncasl_uint32_uint32, ctDisp 1 [(f_attr_great_1_1, ct_slices_ContainsFuncasl_uint32_uint32_at_attr_great_1_1)])]
theorem attr_great_1_eq (s0 : Bool × List UInt32) (K : PkTs attr_great_1_rs → Prop) : attr_great_1_q s0 (fun r0 => K (r0, ())) = PCode Try.prog tab_attr_great_1 plan_attr_great_1 (bodyOf Try.f55) (parS attr_great_1_ps (s0, ())) (PRet Try.prog Try.f55.results.toList fun a st => outP attr_great_1_rs st a K) := by kernel_rfl
theorem attr_great_1_fq : FnQ Try.prog f_attr_great_1 attr_great_1_ps attr_great_1_rs (fun x K => attr_great_1_q x.1 (fun r0 => K (r0, ()))) := (fnQ_of k_attr_great_1 (tab := tab_attr_great_1) ⟨ctDisp_sound ⟨ct_slices_ContainsFuncasl_uint32_uint32_at_attr_great_1_1_ok, trivial⟩, trivial⟩ rfl).mono fun x K h => Eq.mp (attr_great_1_eq x.1 K) h
noncomputable def ct_attr_great_1 : Ct := ctBor attr_great_1_ps attr_great_1_rs (fun x K => attr_great_1_q x.1 (fun r0 => K (r0, ())))
theorem ct_attr_great_1_ok : SoundCt Try.prog f_attr_great_1 ct_attr_great_1 := ctBor_sound attr_great_1_fq
def pl_slices_IndexFuncasl_api_Segment_api_Segment_at_attr_great_1_2 : PLoop := ⟨[(8, PK.int .i64)], [0, 1, 7], none⟩
def plan_slices_IndexFuncasl_api_Segment_api_Segment_at_attr_great_1 : PPlan := ⟨[], [(2, pl_slices_IndexFuncasl_api_Segment_api_Segment_at_attr_great_1_2)], [], []⟩
theorem k_slices_IndexFuncasl_api_Segment_api_Segment_at_attr_great_1 : Known Try.prog f_slices_IndexFuncasl_api_Segment_api_Segment Try.f68 plan_slices_IndexFuncasl_api_Segment_api_Segment_at_attr_great_1.plan (bodyOf Try.f68) := ⟨Try.func68, by kernel_rfl, by kernel_rfl, by kernel_rfl, by kernel_rfl, by kernel_rfl⟩
abbrev slices_IndexFuncasl_api_Segment_api_Segment_at_attr_great_1_ps : List Pk := [Pk.lst [Kd.bool, Kd.lst [Kd.int .u32]], Pk.fn 55]
abbrev slices_IndexFuncasl_api_Segment_api_Segment_at_attr_great_1_rs : List Pk := [Pk.int .i64]
def slices_IndexFuncasl_api_Segment_api_Segment_at_attr_great_1_l2 (s0 : List (Bool × List UInt32)) (x8 : Int) (next2 : (Int × Unit) → Prop) (K : Int → Prop) : Prop :=
 IfB (decide ((x8 : Int) < (s0.length : Int)))
 ((0 : Int) ≤ x8 ∧ AtN s0 x8.toNat fun x14 =>
 WfT ks_bool_lst_int_u32 x14 →
 (WfPs attr_great_1_ps (x14, ()) →
 attr_great_1_q x14 (fun x16 =>
 WfPs attr_great_1_rs (x16, ()) →
 IfB x16
 (K x8)
 (next2 ((IntKind.wrap .i64 (x8 + 1)), ())))))
 (K (-1))
def slices_IndexFuncasl_api_Segment_api_Segment_at_attr_great_1_q (s0 : List (Bool × List UInt32)) (K : Int → Prop) : Prop :=
 LoopJ (Int × Unit) ((0 : Int), ()) fun y next =>
 WfY pl_slices_IndexFuncasl_api_Segment_api_Segment_at_attr_great_1_2.kinds y →
 slices_IndexFuncasl_api_Segment_api_Segment_at_attr_great_1_l2 s0 y.1 next K
noncomputable def tab_slices_IndexFuncasl_api_Segment_api_Segment_at_attr_great_1 : List (Nat × Ct) := [(f_attr_great_1, ct_attr_great_1)]
theorem slices_IndexFuncasl_api_Segment_api_Segment_at_attr_great_1_eq (s0 : List (Bool × List UInt32)) (K : PkTs slices_IndexFuncasl_api_Segment_api_Segment_at_attr_great_1_rs → Prop) : slices_IndexFuncasl_api_Segment_api_Segment_at_attr_great_1_q s0 (fun r0 => K (r0, ())) = PCode Try.prog tab_slices_IndexFuncasl_api_Segment_api_Segment_at_attr_great_1 plan_slices_IndexFuncasl_api_Segment_api_Segment_at_attr_great_1 (bodyOf Try.f68) (parS slices_IndexFuncasl_api_Segment_api_Segment_at_attr_great_1_ps (s0, (), ())) (PRet Try.prog Try.f68.results.toList fun a st => outP slices_IndexFuncasl_api_Segment_api_Segment_at_attr_great_1_rs st a K) := by kernel_rfl
theorem slices_IndexFuncasl_api_Segment_api_Segment_at_attr_great_1_fq : FnQ Try.prog f_slices_IndexFuncasl_api_Segment_api_Segment slices_IndexFuncasl_api_Segment_api_Segment_at_attr_great_1_ps slices_IndexFuncasl_api_Segment_api_Segment_at_attr_great_1_rs (fun x K => slices_IndexFuncasl_api_Segment_api_Segment_at_attr_great_1_q x.1 (fun r0 => K (r0, ()))) := (fnQ_of k_slices_IndexFuncasl_api_Segment_api_Segment_at_attr_great_1 (tab := tab_slices_IndexFuncasl_api_Segment_api_Segment_at_attr_great_1) ⟨ct_attr_great_1_ok, trivial⟩ rfl).mono fun x K h => Eq.mp (slices_IndexFuncasl_api_Segment_api_Segment_at_attr_great_1_eq x.1 K) h
noncomputable def ct_slices_IndexFuncasl_api_Segment_api_Segment_at_attr_great_1 : Ct := ctBor slices_IndexFuncasl_api_Segment_api_Segment_at_attr_great_1_ps slices_IndexFuncasl_api_Segment_api_Segment_at_attr_great_1_rs (fun x K => slices_IndexFuncasl_api_Segment_api_Segment_at_attr_great_1_q x.1 (fun r0 => K (r0, ())))
theorem ct_slices_IndexFuncasl_api_Segment_api_Segment_at_attr_great_1_ok : SoundCt Try.prog f_slices_IndexFuncasl_api_Segment_api_Segment ct_slices_IndexFuncasl_api_Segment_api_Segment_at_attr_great_1 := ctBor_sound slices_IndexFuncasl_api_Segment_api_Segment_at_attr_great_1_fq
def plan_slices_ContainsFuncasl_api_Segment_api_Segment_at_attr_great_1 : PPlan := ⟨[], [], [], []⟩
theorem k_slices_ContainsFuncasl_api_Segment_api_Segment_at_attr_great_1 : Known Try.prog f_slices_ContainsFuncasl_api_Segment_api_Segment Try.f54 plan_slices_ContainsFuncasl_api_Segment_api_Segment_at_attr_great_1.plan (bodyOf Try.f54) := ⟨Try.func54, by kernel_rfl, by kernel_rfl, by kernel_rfl, by kernel_rfl, by kernel_rfl⟩
abbrev slices_ContainsFuncasl_api_Segment_api_Segment_at_attr_great_1_ps : List Pk := [Pk.lst [Kd.bool, Kd.lst [Kd.int .u32]], Pk.fn 55]
abbrev slices_ContainsFuncasl_api_Segment_api_Segment_at_attr_great_1_rs : List Pk := [Pk.bool]
def slices_ContainsFuncasl_api_Segment_api_Segment_at_attr_great_1_q (s0 : List (Bool × List UInt32)) (K : Bool → Prop) : Prop :=
 (WfPs slices_IndexFuncasl_api_Segment_api_Segment_at_attr_great_1_ps (s0, (), ()) →
 slices_IndexFuncasl_api_Segment_api_Segment_at_attr_great_1_q s0 (fun x7 =>
 WfPs slices_IndexFuncasl_api_Segment_api_Segment_at_attr_great_1_rs (x7, ()) →
 K (decide ((x7 : Int) ≥ 0))))
noncomputable def tab_slices_ContainsFuncasl_api_Segment_api_Segment_at_attr_great_1 : List (Nat × Ct) := [(f_slices_IndexFuncasl_api_Segment_api_Segment, ctDisp 1 [(f_attr_great_1, ct_slices_IndexFuncasl_api_Segment_api_Segment_at_attr_great_1)])]
theorem slices_ContainsFuncasl_api_Segment_api_Segment_at_attr_great_1_eq (s0 : List (Bool × List UInt32)) (K : PkTs slices_ContainsFuncasl_api_Segment_api_Segment_at_attr_great_1_rs → Prop) : slices_ContainsFuncasl_api_Segment_api_Segment_at_attr_great_1_q s0 (fun r0 => K (r0, ())) = PCode Try.prog tab_slices_ContainsFuncasl_api_Segment_api_Segment_at_attr_great_1 plan_slices_ContainsFuncasl_api_Segment_api_Segment_at_attr_great_1 (bodyOf Try.f54) (parS slices_ContainsFuncasl_api_Segment_api_Segment_at_attr_great_1_ps (s0, (), ())) (PRet Try.prog Try.f54.results.toList fun a st => outP slices_ContainsFuncasl_api_Segment_api_Segment_at_attr_great_1_rs st a K) := by kernel_rfl
theorem slices_ContainsFuncasl_api_Segment_api_Segment_at_attr_great_1_fq : FnQ Try.prog f_slices_ContainsFuncasl_api_Segment_api_Segment slices_ContainsFuncasl_api_Segment_api_Segment_at_attr_great_1_ps slices_ContainsFuncasl_api_Segment_api_Segment_at_attr_great_1_rs (fun x K => slices_ContainsFuncasl_api_Segment_api_Segment_at_attr_great_1_q x.1 (fun r0 => K (r0, ()))) := (fnQ_of k_slices_ContainsFuncasl_api_Segment_api_Segment_at_attr_great_1 (tab := tab_slices_ContainsFuncasl_api_Segment_api_Segment_at_attr_great_1) ⟨ctDisp_sound ⟨ct_slices_IndexFuncasl_api_Segment_api_Segment_at_attr_great_1_ok, trivial⟩, trivial⟩ rfl).mono fun x K h => Eq.mp (slices_ContainsFuncasl_api_Segment_api_Segment_at_attr_great_1_eq x.1 K) h
noncomputable def ct_slices_ContainsFuncasl_api_Segment_api_Segment_at_attr_great_1 : Ct := ctBor slices_ContainsFuncasl_api_Segment_api_Segment_at_attr_great_1_ps slices_ContainsFuncasl_api_Segment_api_Segment_at_attr_great_1_rs (fun x K => slices_ContainsFuncasl_api_Segment_api_Segment_at_attr_great_1_q x.1 (fun r0 => K (r0, ())))
theorem ct_slices_ContainsFuncasl_api_Segment_api_Segment_at_attr_great_1_ok : SoundCt Try.prog f_slices_ContainsFuncasl_api_Segment_api_Segment ct_slices_ContainsFuncasl_api_Segment_api_Segment_at_attr_great_1 := ctBor_sound slices_ContainsFuncasl_api_Segment_api_Segment_at_attr_great_1_fq
def plan_attr_great : PPlan := ⟨[], [], [], []⟩
theorem k_attr_great : Known Try.prog f_attr_great Try.f27 plan_attr_great.plan (bodyOf Try.f27) := ⟨Try.func27, by kernel_rfl, by kernel_rfl, by kernel_rfl, by kernel_rfl, by kernel_rfl⟩
abbrev attr_great_ps : List Pk := [Pk.lst [Kd.bool, Kd.lst [Kd.int .u32]]]
abbrev attr_great_rs : List Pk := [Pk.bool]
def attr_great_q (p0 : List (Bool × List UInt32)) (K : Bool → Prop) : Prop :=
 (WfPs slices_ContainsFuncasl_api_Segment_api_Segment_at_attr_great_1_ps (p0, (), ()) →
 slices_ContainsFuncasl_api_Segment_api_Segment_at_attr_great_1_q p0 (fun x4 =>
 WfPs slices_ContainsFuncasl_api_Segment_api_Segment_at_attr_great_1_rs (x4, ()) →
 K x4))
noncomputable def tab_attr_great : List (Nat × Ct) := [(f_slices_ContainsFuncasl_api_Segment_api_Segment, ctDisp 1 [(f_attr_great_1, ct_slices_ContainsFuncasl_api_Segment_api_Segment_at_attr_great_1)])]
theorem attr_great_eq (p0 : List (Bool × List UInt32)) (K : PkTs attr_great_rs → Prop) : attr_great_q p0 (fun r0 => K (r0, ())) = PCode Try.prog tab_attr_great plan_attr_great (bodyOf Try.f27) (parS attr_great_ps (p0, ())) (PRet Try.prog Try.f27.results.toList fun a st => outP attr_great_rs st a K) := by kernel_rfl
theorem attr_great_fq : FnQ Try.prog f_attr_great attr_great_ps attr_great_rs (fun x K => attr_great_q x.1 (fun r0 => K (r0, ()))) := (fnQ_of k_attr_great (tab := tab_attr_great) ⟨ctDisp_sound ⟨ct_slices_ContainsFuncasl_api_Segment_api_Segment_at_attr_great_1_ok, trivial⟩, trivial⟩ rfl).mono fun x K h => Eq.mp (attr_great_eq x.1 K) h
noncomputable def ct_attr_great : Ct := ctBor attr_great_ps attr_great_rs (fun x K => attr_great_q x.1 (fun r0 => K (r0, ())))
theorem ct_attr_great_ok : SoundCt Try.prog f_attr_great ct_attr_great := ctBor_sound attr_great_fq
def pl_attr_Put_16 : PLoop := ⟨[(87, PK.int .i64)], [7, 85, 86], some (7, [PK.row T_uint8 [Kd.int .u8]])⟩
def plan_attr_Put : PPlan := ⟨[(14, [0, 1, 2, 4, 5, 3, 6, 7, 8], [80])], [(16, pl_attr_Put_16)], [], []⟩
theorem k_attr_Put : Known Try.prog f_attr_Put Try.f9 plan_attr_Put.plan (bodyOf Try.f9) := ⟨Try.func9, by kernel_rfl, by kernel_rfl, by kernel_rfl, by kernel_rfl, by kernel_rfl⟩
abbrev attr_Put_ps : List Pk := [Pk.agg [Kd.int .i64, Kd.lst [Kd.bool, Kd.lst [Kd.int .u32]], Kd.int .u32, Kd.bool, Kd.int .u32, Kd.bool, Kd.int .u32, Kd.bool, Kd.bool, Kd.int .u32, Kd.int .u32, Kd.lst [Kd.int .u32], Kd.lst [Kd.int .i64, Kd.lst [Kd.int .u8]]], Pk.bool]
abbrev attr_Put_rs : List Pk := [Pk.own T_uint8 [Kd.int .u8], Pk.int .i64]
def attr_Put_l16 (a0 : Int × List (Bool × List UInt32) × UInt32 × Bool × UInt32 × Bool × UInt32 × Bool × Bool × UInt32 × UInt32 × List UInt32 × List (Int × List UInt8)) (x87 : Int) (c0 : List UInt8) (next16 : (Int × List UInt8 × Unit) → Prop) (K : List UInt8 → Int → Prop) : Prop :=
 IfB (decide ((x87 : Int) < (a0.2.2.2.2.2.2.2.2.2.2.2.2.length : Int)))
 ((0 : Int) ≤ x87 ∧ AtN a0.2.2.2.2.2.2.2.2.2.2.2.2 x87.toNat fun x89 =>
 WfT ks_int_i64_lst_int_u8 x89 →
 (WfY attr_writer_put_os (c0, ()) →
 WfPs attr_writer_put_ps ((224 : Int), x89.1, ([x89.2] : List (List UInt8)), ()) →
 attr_writer_put_q c0 (224 : Int) x89.1 ([x89.2] : List (List UInt8)) (fun ox970 =>
 WfY attr_writer_put_os (ox970, ()) →
 WfPs attr_writer_put_rs () →
 next16 ((IntKind.wrap .i64 (x87 + 1)), ox970, ()))))
 (K c0 0)
def attr_Put_j4 (j13 : List UInt8) (a0 : Int × List (Bool × List UInt32) × UInt32 × Bool × UInt32 × Bool × UInt32 × Bool × Bool × UInt32 × UInt32 × List UInt32 × List (Int × List UInt8)) (K : List UInt8 → Int → Prop) : Prop :=
 LoopJ (Int × List UInt8 × Unit) ((0 : Int), j13, ()) fun y next =>
 WfY pl_attr_Put_16.kinds y →
 attr_Put_l16 a0 y.1 y.2.1 next K
def attr_Put_j3 (a0 : Int × List (Bool × List UInt32) × UInt32 × Bool × UInt32 × Bool × UInt32 × Bool × Bool × UInt32 × UInt32 × List UInt32 × List (Int × List UInt8)) (j13 : List UInt8) (K : List UInt8 → Int → Prop) : Prop :=
 attr_Put_j4 j13 a0 K
def attr_Put_j2 (a0 : Int × List (Bool × List UInt32) × UInt32 × Bool × UInt32 × Bool × UInt32 × Bool × Bool × UInt32 × UInt32 × List UInt32 × List (Int × List UInt8)) (j14 : List UInt8) (j14_1 : Bool) (K : List UInt8 → Int → Prop) : Prop :=
 IfB j14_1
 ((WfPs attr_num_ps ((a0.2.2.2.2.2.2.2.2.2.1.toNat : Int), ()) →
 attr_num_q (a0.2.2.2.2.2.2.2.2.2.1.toNat : Int) (fun x78 =>
 WfPs attr_num_rs (x78, ()) →
 (WfPs attr_num_ps ((a0.2.2.2.2.2.2.2.2.2.2.1.toNat : Int), ()) →
 attr_num_q (a0.2.2.2.2.2.2.2.2.2.2.1.toNat : Int) (fun x81 =>
 WfPs attr_num_rs (x81, ()) →
 (WfY attr_writer_usual_os (j14, ()) →
 WfPs attr_writer_usual_ps ((18 : Int), ([x78, x81] : List (List UInt8)), ()) →
 attr_writer_usual_q j14 (18 : Int) ([x78, x81] : List (List UInt8)) (fun ox830 =>
 WfY attr_writer_usual_os (ox830, ()) →
 WfPs attr_writer_usual_rs () →
 attr_Put_j3 a0 ox830 K)))))))
 (attr_Put_j3 a0 j14 K)
def attr_Put_j1 (four1 : Bool) (a0 : Int × List (Bool × List UInt32) × UInt32 × Bool × UInt32 × Bool × UInt32 × Bool × Bool × UInt32 × UInt32 × List UInt32 × List (Int × List UInt8)) (j14 : List UInt8) (K : List UInt8 → Int → Prop) : Prop :=
 IfB (!four1)
 (IfB a0.2.2.2.2.2.2.2.2.1
 (attr_Put_j2 a0 j14 (decide (((a0.2.2.2.2.2.2.2.2.2.1.toNat : Int) : Int) > 65535)) K)
 (attr_Put_j2 a0 j14 false K))
 (attr_Put_j2 a0 j14 false K)
def attr_Put_j0 (four1 : Bool) (a0 : Int × List (Bool × List UInt32) × UInt32 × Bool × UInt32 × Bool × UInt32 × Bool × Bool × UInt32 × UInt32 × List UInt32 × List (Int × List UInt8)) (ox460 : List UInt8) (j15 : Bool) (K : List UInt8 → Int → Prop) : Prop :=
 IfB j15
 ((WfPs path_Put_ps (a0.2.1, true, ()) →
 path_Put_q a0.2.1 true (fun x57r0 x57r1 =>
 WfPs path_Put_rs (x57r0, x57r1, ()) →
 (WfY attr_writer_usual_os (ox460, ()) →
 WfPs attr_writer_usual_ps ((17 : Int), ([x57r0] : List (List UInt8)), ()) →
 attr_writer_usual_q ox460 (17 : Int) ([x57r0] : List (List UInt8)) (fun ox630 =>
 WfY attr_writer_usual_os (ox630, ()) →
 WfPs attr_writer_usual_rs () →
 attr_Put_j1 four1 a0 ox630 K)))))
 (attr_Put_j1 four1 a0 ox460 K)
def attr_Put_q (a0 : Int × List (Bool × List UInt32) × UInt32 × Bool × UInt32 × Bool × UInt32 × Bool × Bool × UInt32 × UInt32 × List UInt32 × List (Int × List UInt8)) (four1 : Bool) (K : List UInt8 → Int → Prop) : Prop :=
 (WfPs attr_Check_ps (((a0.1, a0.2.1, (ofI .u32 (a0.2.2.1.toNat : Int)), a0.2.2.2.1, (ofI .u32 (a0.2.2.2.2.1.toNat : Int)), a0.2.2.2.2.2.1, (ofI .u32 (a0.2.2.2.2.2.2.1.toNat : Int)), a0.2.2.2.2.2.2.2.1, a0.2.2.2.2.2.2.2.2.1, (ofI .u32 (a0.2.2.2.2.2.2.2.2.2.1.toNat : Int)), (ofI .u32 (a0.2.2.2.2.2.2.2.2.2.2.1.toNat : Int)), a0.2.2.2.2.2.2.2.2.2.2.2.1, a0.2.2.2.2.2.2.2.2.2.2.2.2) : Int × List (Bool × List UInt32) × UInt32 × Bool × UInt32 × Bool × UInt32 × Bool × Bool × UInt32 × UInt32 × List UInt32 × List (Int × List UInt8)), ()) →
 attr_Check_q ((a0.1, a0.2.1, (ofI .u32 (a0.2.2.1.toNat : Int)), a0.2.2.2.1, (ofI .u32 (a0.2.2.2.2.1.toNat : Int)), a0.2.2.2.2.2.1, (ofI .u32 (a0.2.2.2.2.2.2.1.toNat : Int)), a0.2.2.2.2.2.2.2.1, a0.2.2.2.2.2.2.2.2.1, (ofI .u32 (a0.2.2.2.2.2.2.2.2.2.1.toNat : Int)), (ofI .u32 (a0.2.2.2.2.2.2.2.2.2.2.1.toNat : Int)), a0.2.2.2.2.2.2.2.2.2.2.2.1, a0.2.2.2.2.2.2.2.2.2.2.2.2) : Int × List (Bool × List UInt32) × UInt32 × Bool × UInt32 × Bool × UInt32 × Bool × Bool × UInt32 × UInt32 × List UInt32 × List (Int × List UInt8)) (fun x13 =>
 WfPs attr_Check_rs (x13, ()) →
 IfB ((x13 : Int) != 0)
 (K ([] : List UInt8) x13)
 ((WfPs path_Put_ps (a0.2.1, four1, ()) →
 path_Put_q a0.2.1 four1 (fun x23r0 x23r1 =>
 WfPs path_Put_rs (x23r0, x23r1, ()) →
 (WfY attr_writer_usual_os (([] : List UInt8), ()) →
 WfPs attr_writer_usual_ps ((1 : Int), ([([(ofI .u8 (IntKind.wrap .u8 a0.1))] : List UInt8)] : List (List UInt8)), ()) →
 attr_writer_usual_q ([] : List UInt8) (1 : Int) ([([(ofI .u8 (IntKind.wrap .u8 a0.1))] : List UInt8)] : List (List UInt8)) (fun ox320 =>
 WfY attr_writer_usual_os (ox320, ()) →
 WfPs attr_writer_usual_rs () →
 (WfY attr_writer_usual_os (ox320, ()) →
 WfPs attr_writer_usual_ps ((2 : Int), ([x23r0] : List (List UInt8)), ()) →
 attr_writer_usual_q ox320 (2 : Int) ([x23r0] : List (List UInt8)) (fun ox360 =>
 WfY attr_writer_usual_os (ox360, ()) →
 WfPs attr_writer_usual_rs () →
 (WfPs attr_num_ps ((a0.2.2.1.toNat : Int), ()) →
 attr_num_q (a0.2.2.1.toNat : Int) (fun x40 =>
 WfPs attr_num_rs (x40, ()) →
 (WfY attr_writer_usual_os (ox360, ()) →
 WfPs attr_writer_usual_ps ((3 : Int), ([x40] : List (List UInt8)), ()) →
 attr_writer_usual_q ox360 (3 : Int) ([x40] : List (List UInt8)) (fun ox420 =>
 WfY attr_writer_usual_os (ox420, ()) →
 WfPs attr_writer_usual_rs () →
 (WfY attr_writer_perhaps_os (ox420, ()) →
 WfPs attr_writer_perhaps_ps (((a0.1, a0.2.1, (ofI .u32 (a0.2.2.1.toNat : Int)), a0.2.2.2.1, (ofI .u32 (a0.2.2.2.2.1.toNat : Int)), a0.2.2.2.2.2.1, (ofI .u32 (a0.2.2.2.2.2.2.1.toNat : Int)), a0.2.2.2.2.2.2.2.1, a0.2.2.2.2.2.2.2.2.1, (ofI .u32 (a0.2.2.2.2.2.2.2.2.2.1.toNat : Int)), (ofI .u32 (a0.2.2.2.2.2.2.2.2.2.2.1.toNat : Int)), a0.2.2.2.2.2.2.2.2.2.2.2.1, a0.2.2.2.2.2.2.2.2.2.2.2.2) : Int × List (Bool × List UInt32) × UInt32 × Bool × UInt32 × Bool × UInt32 × Bool × Bool × UInt32 × UInt32 × List UInt32 × List (Int × List UInt8)), four1, ()) →
 attr_writer_perhaps_q ox420 ((a0.1, a0.2.1, (ofI .u32 (a0.2.2.1.toNat : Int)), a0.2.2.2.1, (ofI .u32 (a0.2.2.2.2.1.toNat : Int)), a0.2.2.2.2.2.1, (ofI .u32 (a0.2.2.2.2.2.2.1.toNat : Int)), a0.2.2.2.2.2.2.2.1, a0.2.2.2.2.2.2.2.2.1, (ofI .u32 (a0.2.2.2.2.2.2.2.2.2.1.toNat : Int)), (ofI .u32 (a0.2.2.2.2.2.2.2.2.2.2.1.toNat : Int)), a0.2.2.2.2.2.2.2.2.2.2.2.1, a0.2.2.2.2.2.2.2.2.2.2.2.2) : Int × List (Bool × List UInt32) × UInt32 × Bool × UInt32 × Bool × UInt32 × Bool × Bool × UInt32 × UInt32 × List UInt32 × List (Int × List UInt8)) four1 (fun ox460 =>
 WfY attr_writer_perhaps_os (ox460, ()) →
 WfPs attr_writer_perhaps_rs () →
 IfB (!four1)
 ((WfPs attr_great_ps (a0.2.1, ()) →
 attr_great_q a0.2.1 (fun x52 =>
 WfPs attr_great_rs (x52, ()) →
 attr_Put_j0 four1 a0 ox460 x52 K)))
 (attr_Put_j0 four1 a0 ox460 false K))))))))))))))))
noncomputable def tab_attr_Put : List (Nat × Ct) := [(f_attr_Check, ct_attr_Check), (f_path_Put, ct_path_Put), (f_attr_writer_usual, ct_attr_writer_usual), (f_attr_num, ct_attr_num), (f_attr_writer_perhaps, ct_attr_writer_perhaps), (f_attr_great, ct_attr_great), (f_attr_writer_put, ct_attr_writer_put)]
theorem attr_Put_eq (a0 : Int × List (Bool × List UInt32) × UInt32 × Bool × UInt32 × Bool × UInt32 × Bool × Bool × UInt32 × UInt32 × List UInt32 × List (Int × List UInt8)) (four1 : Bool) (K : PkTs attr_Put_rs → Prop) : attr_Put_q a0 four1 (fun r0 r1 => K (r0, r1, ())) = PCode Try.prog tab_attr_Put plan_attr_Put (bodyOf Try.f9) (parS attr_Put_ps (a0, four1, ())) (PRet Try.prog Try.f9.results.toList fun a st => outP attr_Put_rs st a K) := by kernel_rfl
theorem attr_Put_fq : FnQ Try.prog f_attr_Put attr_Put_ps attr_Put_rs (fun x K => attr_Put_q x.1 x.2.1 (fun r0 r1 => K (r0, r1, ()))) := (fnQ_of k_attr_Put (tab := tab_attr_Put) ⟨ct_attr_Check_ok, ct_path_Put_ok, ct_attr_writer_usual_ok, ct_attr_num_ok, ct_attr_writer_perhaps_ok, ct_attr_great_ok, ct_attr_writer_put_ok, trivial⟩ rfl).mono fun x K h => Eq.mp (attr_Put_eq x.1 x.2.1 K) h
noncomputable def ct_attr_Put : Ct := ctVal attr_Put_ps attr_Put_rs (fun x K => attr_Put_q x.1 x.2.1 (fun r0 r1 => K (r0, r1, ())))
theorem ct_attr_Put_ok : SoundCt Try.prog f_attr_Put ct_attr_Put := ctVal_sound attr_Put_fq
def pl_ref19_Check_3 : PLoop := ⟨[(3, PK.int .i64), (4, PK.int .i64)], [0], none⟩
def pl_ref19_Check_8 : PLoop := ⟨[(5, PK.int .i64)], [0, 3, 4], none⟩
def plan_ref19_Check : PPlan := ⟨[], [(3, pl_ref19_Check_3), (8, pl_ref19_Check_8)], [], []⟩
theorem k_ref19_Check : Known Try.prog f_ref19_Check Try.f36 plan_ref19_Check.plan (bodyOf Try.f36) := ⟨Try.func36, by kernel_rfl, by kernel_rfl, by kernel_rfl, by kernel_rfl, by kernel_rfl⟩
abbrev ref19_Check_ps : List Pk := [Pk.lst [Kd.bool, Kd.lst [Kd.int .u32]]]
abbrev ref19_Check_rs : List Pk := [Pk.int .i64]
def ref19_Check_l8 (p0 : List (Bool × List UInt32)) (n3 : Int) (i4 : Int) (next3 : (Int × Int × Unit) → Prop) (k5 : Int) (next8 : (Int × Unit) → Prop) (K : Int → Prop) : Prop :=
 (0 : Int) ≤ i4 ∧ AtN p0 i4.toNat fun x31 =>
 WfT ks_bool_lst_int_u32 x31 →
 IfB (decide ((k5 : Int) < (x31.2.length : Int)))
 ((0 : Int) ≤ i4 ∧ AtN p0 i4.toNat fun x40 =>
 WfT ks_bool_lst_int_u32 x40 →
 (0 : Int) ≤ k5 ∧ AtN x40.2 k5.toNat fun x44 =>
 WfT ks_int_u32 x44 →
 IfB (((x44.toNat : Int) : Int) == 0)
 (K 2)
 (next8 ((IntKind.wrap .i64 (k5 + 1)), ())))
 ((0 : Int) ≤ i4 ∧ AtN p0 i4.toNat fun x50 =>
 WfT ks_bool_lst_int_u32 x50 →
 IfB (decide (((IntKind.wrap .i64 (n3 + (x50.2.length : Int))) : Int) > 64))
 (K 2)
 (next3 ((IntKind.wrap .i64 (n3 + (x50.2.length : Int))), (IntKind.wrap .i64 (i4 + 1)), ())))
def ref19_Check_j0 (p0 : List (Bool × List UInt32)) (n3 : Int) (i4 : Int) (next3 : (Int × Int × Unit) → Prop) (j3 : Bool) (K : Int → Prop) : Prop :=
 IfB j3
 (K 2)
 (LoopJ (Int × Unit) ((0 : Int), ()) fun y next =>
 WfY pl_ref19_Check_8.kinds y →
 ref19_Check_l8 p0 n3 i4 next3 y.1 next K)
def ref19_Check_l3 (p0 : List (Bool × List UInt32)) (n3 : Int) (i4 : Int) (next3 : (Int × Int × Unit) → Prop) (K : Int → Prop) : Prop :=
 IfB (decide ((i4 : Int) < (p0.length : Int)))
 ((0 : Int) ≤ i4 ∧ AtN p0 i4.toNat fun x14 =>
 WfT ks_bool_lst_int_u32 x14 →
 IfB (((x14.2.length : Int) : Int) == 0)
 (ref19_Check_j0 p0 n3 i4 next3 true K)
 ((0 : Int) ≤ i4 ∧ AtN p0 i4.toNat fun x22 =>
 WfT ks_bool_lst_int_u32 x22 →
 ref19_Check_j0 p0 n3 i4 next3 (decide (((x22.2.length : Int) : Int) > 255)) K))
 (K 0)
def ref19_Check_q (p0 : List (Bool × List UInt32)) (K : Int → Prop) : Prop :=
 LoopJ (Int × Int × Unit) ((0 : Int), (0 : Int), ()) fun y next =>
 WfY pl_ref19_Check_3.kinds y →
 ref19_Check_l3 p0 y.1 y.2.1 next K
noncomputable def tab_ref19_Check : List (Nat × Ct) := []
theorem ref19_Check_eq (p0 : List (Bool × List UInt32)) (K : PkTs ref19_Check_rs → Prop) : ref19_Check_q p0 (fun r0 => K (r0, ())) = PCode Try.prog tab_ref19_Check plan_ref19_Check (bodyOf Try.f36) (parS ref19_Check_ps (p0, ())) (PRet Try.prog Try.f36.results.toList fun a st => outP ref19_Check_rs st a K) := by kernel_rfl
theorem ref19_Check_fq : FnQ Try.prog f_ref19_Check ref19_Check_ps ref19_Check_rs (fun x K => ref19_Check_q x.1 (fun r0 => K (r0, ()))) := (fnQ_of k_ref19_Check (tab := tab_ref19_Check) trivial rfl).mono fun x K h => Eq.mp (ref19_Check_eq x.1 K) h
noncomputable def ct_ref19_Check : Ct := ctBor ref19_Check_ps ref19_Check_rs (fun x K => ref19_Check_q x.1 (fun r0 => K (r0, ())))
theorem ct_ref19_Check_ok : SoundCt Try.prog f_ref19_Check ct_ref19_Check := ctBor_sound ref19_Check_fq
def plan_ref20_known : PPlan := ⟨[], [], [], []⟩
theorem k_ref20_known : Known Try.prog f_ref20_known Try.f37 plan_ref20_known.plan (bodyOf Try.f37) := ⟨Try.func37, by kernel_rfl, by kernel_rfl, by kernel_rfl, by kernel_rfl, by kernel_rfl⟩
abbrev ref20_known_ps : List Pk := [Pk.int .i64]
abbrev ref20_known_rs : List Pk := [Pk.bool]
def ref20_known_q (kind0 : Int) (K : Bool → Prop) : Prop :=
 IfB (decide ((kind0 : Int) ≥ 1))
 (IfB (decide ((kind0 : Int) ≤ 8))
 (K true)
 (IfB ((kind0 : Int) == 17)
 (K true)
 (K ((kind0 : Int) == 18))))
 (IfB ((kind0 : Int) == 17)
 (K true)
 (K ((kind0 : Int) == 18)))
noncomputable def tab_ref20_known : List (Nat × Ct) := []
theorem ref20_known_eq (kind0 : Int) (K : PkTs ref20_known_rs → Prop) : ref20_known_q kind0 (fun r0 => K (r0, ())) = PCode Try.prog tab_ref20_known plan_ref20_known (bodyOf Try.f37) (parS ref20_known_ps (kind0, ())) (PRet Try.prog Try.f37.results.toList fun a st => outP ref20_known_rs st a K) := by kernel_rfl
theorem ref20_known_fq : FnQ Try.prog f_ref20_known ref20_known_ps ref20_known_rs (fun x K => ref20_known_q x.1 (fun r0 => K (r0, ()))) := (fnQ_of k_ref20_known (tab := tab_ref20_known) trivial rfl).mono fun x K h => Eq.mp (ref20_known_eq x.1 K) h
noncomputable def ct_ref20_known : Ct := ctBor ref20_known_ps ref20_known_rs (fun x K => ref20_known_q x.1 (fun r0 => K (r0, ())))
theorem ct_ref20_known_ok : SoundCt Try.prog f_ref20_known ct_ref20_known := ctBor_sound ref20_known_fq
def pl_ref20_Check_5 : PLoop := ⟨[(3, PK.int .i64), (4, PK.int .i64)], [1], none⟩
def plan_ref20_Check : PPlan := ⟨[], [(5, pl_ref20_Check_5)], [], []⟩
theorem k_ref20_Check : Known Try.prog f_ref20_Check Try.f12 plan_ref20_Check.plan (bodyOf Try.f12) := ⟨Try.func12, by kernel_rfl, by kernel_rfl, by kernel_rfl, by kernel_rfl, by kernel_rfl⟩
abbrev ref20_Check_ps : List Pk := [Pk.agg [Kd.int .i64, Kd.lst [Kd.bool, Kd.lst [Kd.int .u32]], Kd.int .u32, Kd.bool, Kd.int .u32, Kd.bool, Kd.int .u32, Kd.bool, Kd.bool, Kd.int .u32, Kd.int .u32, Kd.lst [Kd.int .u32], Kd.lst [Kd.int .i64, Kd.lst [Kd.int .u8]]]]
abbrev ref20_Check_rs : List Pk := [Pk.int .i64]
def ref20_Check_j1 (a0 : Int × List (Bool × List UInt32) × UInt32 × Bool × UInt32 × Bool × UInt32 × Bool × Bool × UInt32 × UInt32 × List UInt32 × List (Int × List UInt8)) (i4 : Int) (x61 : Int × List UInt8) (next5 : (Int × Int × Unit) → Prop) (j16 : Bool) (K : Int → Prop) : Prop :=
 IfB j16
 (K 2)
 (next5 (x61.1, (IntKind.wrap .i64 (i4 + 1)), ()))
def ref20_Check_l5 (a0 : Int × List (Bool × List UInt32) × UInt32 × Bool × UInt32 × Bool × UInt32 × Bool × Bool × UInt32 × UInt32 × List UInt32 × List (Int × List UInt8)) (last3 : Int) (i4 : Int) (next5 : (Int × Int × Unit) → Prop) (K : Int → Prop) : Prop :=
 IfB (decide ((i4 : Int) < (a0.2.2.2.2.2.2.2.2.2.2.2.2.length : Int)))
 ((0 : Int) ≤ i4 ∧ AtN a0.2.2.2.2.2.2.2.2.2.2.2.2 i4.toNat fun x61 =>
 WfT ks_int_i64_lst_int_u8 x61 →
 IfB (decide ((x61.1 : Int) ≤ last3))
 (ref20_Check_j1 a0 i4 x61 next5 true K)
 (IfB (decide ((x61.1 : Int) > 255))
 (ref20_Check_j1 a0 i4 x61 next5 true K)
 ((WfPs ref20_known_ps (x61.1, ()) →
 ref20_known_q x61.1 (fun x75 =>
 WfPs ref20_known_rs (x75, ()) →
 IfB x75
 (ref20_Check_j1 a0 i4 x61 next5 true K)
 (ref20_Check_j1 a0 i4 x61 next5 (decide (((x61.2.length : Int) : Int) > 255)) K))))))
 (K 0)
def ref20_Check_j0 (a0 : Int × List (Bool × List UInt32) × UInt32 × Bool × UInt32 × Bool × UInt32 × Bool × Bool × UInt32 × UInt32 × List UInt32 × List (Int × List UInt8)) (j13 : Bool) (K : Int → Prop) : Prop :=
 IfB j13
 (K 2)
 (LoopJ (Int × Int × Unit) (((-1) : Int), (0 : Int), ()) fun y next =>
 WfY pl_ref20_Check_5.kinds y →
 ref20_Check_l5 a0 y.1 y.2.1 next K)
def ref20_Check_q (a0 : Int × List (Bool × List UInt32) × UInt32 × Bool × UInt32 × Bool × UInt32 × Bool × Bool × UInt32 × UInt32 × List UInt32 × List (Int × List UInt8)) (K : Int → Prop) : Prop :=
 IfB (decide ((a0.1 : Int) < 0))
 (ref20_Check_j0 a0 true K)
 (IfB (decide ((a0.1 : Int) > 2))
 (ref20_Check_j0 a0 true K)
 ((WfPs ref19_Check_ps (a0.2.1, ()) →
 ref19_Check_q a0.2.1 (fun x17 =>
 WfPs ref19_Check_rs (x17, ()) →
 IfB ((x17 : Int) != 0)
 (ref20_Check_j0 a0 true K)
 (IfB (((a0.2.2.1.toNat : Int) : Int) == 0)
 (ref20_Check_j0 a0 true K)
 (IfB (decide (((a0.2.2.1.toNat : Int) : Int) ≥ 3758096384))
 (ref20_Check_j0 a0 true K)
 (IfB a0.2.2.2.2.2.2.2.2.1
 (IfB (((a0.2.2.2.2.2.2.2.2.2.1.toNat : Int) : Int) == 0)
 (ref20_Check_j0 a0 true K)
 (IfB (decide (((a0.2.2.2.2.2.2.2.2.2.2.2.1.length : Int) : Int) > 32))
 (ref20_Check_j0 a0 true K)
 (ref20_Check_j0 a0 (decide (((a0.2.2.2.2.2.2.2.2.2.2.2.2.length : Int) : Int) > 8)) K)))
 (IfB (decide (((a0.2.2.2.2.2.2.2.2.2.2.2.1.length : Int) : Int) > 32))
 (ref20_Check_j0 a0 true K)
 (ref20_Check_j0 a0 (decide (((a0.2.2.2.2.2.2.2.2.2.2.2.2.length : Int) : Int) > 8)) K)))))))))
noncomputable def tab_ref20_Check : List (Nat × Ct) := [(f_ref19_Check, ct_ref19_Check), (f_ref20_known, ct_ref20_known)]
theorem ref20_Check_eq (a0 : Int × List (Bool × List UInt32) × UInt32 × Bool × UInt32 × Bool × UInt32 × Bool × Bool × UInt32 × UInt32 × List UInt32 × List (Int × List UInt8)) (K : PkTs ref20_Check_rs → Prop) : ref20_Check_q a0 (fun r0 => K (r0, ())) = PCode Try.prog tab_ref20_Check plan_ref20_Check (bodyOf Try.f12) (parS ref20_Check_ps (a0, ())) (PRet Try.prog Try.f12.results.toList fun a st => outP ref20_Check_rs st a K) := by kernel_rfl
theorem ref20_Check_fq : FnQ Try.prog f_ref20_Check ref20_Check_ps ref20_Check_rs (fun x K => ref20_Check_q x.1 (fun r0 => K (r0, ()))) := (fnQ_of k_ref20_Check (tab := tab_ref20_Check) ⟨ct_ref19_Check_ok, ct_ref20_known_ok, trivial⟩ rfl).mono fun x K h => Eq.mp (ref20_Check_eq x.1 K) h
noncomputable def ct_ref20_Check : Ct := ctBor ref20_Check_ps ref20_Check_rs (fun x K => ref20_Check_q x.1 (fun r0 => K (r0, ())))
theorem ct_ref20_Check_ok : SoundCt Try.prog f_ref20_Check ct_ref20_Check := ctBor_sound ref20_Check_fq
def pl_ref19_Put_5 : PLoop := ⟨[(6, PK.row T_uint8 [Kd.int .u8]), (7, PK.int .i64)], [0, 1], none⟩
def pl_ref19_Put_12 : PLoop := ⟨[(6, PK.row T_uint8 [Kd.int .u8]), (9, PK.int .i64)], [0, 1, 7], none⟩
def plan_ref19_Put : PPlan := ⟨[], [(5, pl_ref19_Put_5), (12, pl_ref19_Put_12)], [], []⟩
theorem k_ref19_Put : Known Try.prog f_ref19_Put Try.f29 plan_ref19_Put.plan (bodyOf Try.f29) := ⟨Try.func29, by kernel_rfl, by kernel_rfl, by kernel_rfl, by kernel_rfl, by kernel_rfl⟩
abbrev ref19_Put_ps : List Pk := [Pk.lst [Kd.bool, Kd.lst [Kd.int .u32]], Pk.bool]
abbrev ref19_Put_rs : List Pk := [Pk.own T_uint8 [Kd.int .u8], Pk.int .i64]
def ref19_Put_j1 (p0 : List (Bool × List UInt32)) (four1 : Bool) (i7 : Int) (k9 : Int) (next5 : (List UInt8 × Int × Unit) → Prop) (next12 : (List UInt8 × Int × Unit) → Prop) (j2 : List UInt8) (K : List UInt8 → Int → Prop) : Prop :=
 next12 (j2, (IntKind.wrap .i64 (k9 + 1)), ())
def ref19_Put_j2 (p0 : List (Bool × List UInt32)) (four1 : Bool) (b6_1 : List UInt8) (i7 : Int) (k9 : Int) (next5 : (List UInt8 × Int × Unit) → Prop) (next12 : (List UInt8 × Int × Unit) → Prop) (j5 : Int) (K : List UInt8 → Int → Prop) : Prop :=
 (256 : Int) ≠ 0 ∧
 (256 : Int) ≠ 0 ∧
 b6_1.length + ([(ofI .u8 (IntKind.wrap .u8 (IntKind.wrap .u32 (Int.tdiv j5 256)))), (ofI .u8 (IntKind.wrap .u8 (Int.tmod j5 256)))] : List UInt8).length ≤ 140737488355232 ∧
 ref19_Put_j1 p0 four1 i7 k9 next5 next12 (b6_1 ++ ([(ofI .u8 (IntKind.wrap .u8 (IntKind.wrap .u32 (Int.tdiv j5 256)))), (ofI .u8 (IntKind.wrap .u8 (Int.tmod j5 256)))] : List UInt8)) K
def ref19_Put_l12 (p0 : List (Bool × List UInt32)) (four1 : Bool) (i7 : Int) (next5 : (List UInt8 × Int × Unit) → Prop) (b6_1 : List UInt8) (k9 : Int) (next12 : (List UInt8 × Int × Unit) → Prop) (K : List UInt8 → Int → Prop) : Prop :=
 (0 : Int) ≤ i7 ∧ AtN p0 i7.toNat fun x40 =>
 WfT ks_bool_lst_int_u32 x40 →
 IfB (decide ((k9 : Int) < (x40.2.length : Int)))
 ((0 : Int) ≤ i7 ∧ AtN p0 i7.toNat fun x49 =>
 WfT ks_bool_lst_int_u32 x49 →
 (0 : Int) ≤ k9 ∧ AtN x49.2 k9.toNat fun x53 =>
 WfT ks_int_u32 x53 →
 IfB four1
 ((16777216 : Int) ≠ 0 ∧
 (65536 : Int) ≠ 0 ∧
 (256 : Int) ≠ 0 ∧
 (256 : Int) ≠ 0 ∧
 (256 : Int) ≠ 0 ∧
 (256 : Int) ≠ 0 ∧
 b6_1.length + ([(ofI .u8 (IntKind.wrap .u8 (IntKind.wrap .u32 (Int.tdiv (x53.toNat : Int) 16777216)))), (ofI .u8 (IntKind.wrap .u8 (Int.tmod (IntKind.wrap .u32 (Int.tdiv (x53.toNat : Int) 65536)) 256))), (ofI .u8 (IntKind.wrap .u8 (Int.tmod (IntKind.wrap .u32 (Int.tdiv (x53.toNat : Int) 256)) 256))), (ofI .u8 (IntKind.wrap .u8 (Int.tmod (x53.toNat : Int) 256)))] : List UInt8).length ≤ 140737488355232 ∧
 ref19_Put_j1 p0 four1 i7 k9 next5 next12 (b6_1 ++ ([(ofI .u8 (IntKind.wrap .u8 (IntKind.wrap .u32 (Int.tdiv (x53.toNat : Int) 16777216)))), (ofI .u8 (IntKind.wrap .u8 (Int.tmod (IntKind.wrap .u32 (Int.tdiv (x53.toNat : Int) 65536)) 256))), (ofI .u8 (IntKind.wrap .u8 (Int.tmod (IntKind.wrap .u32 (Int.tdiv (x53.toNat : Int) 256)) 256))), (ofI .u8 (IntKind.wrap .u8 (Int.tmod (x53.toNat : Int) 256)))] : List UInt8)) K)
 (IfB (decide (((x53.toNat : Int) : Int) > 65535))
 (ref19_Put_j2 p0 four1 b6_1 i7 k9 next5 next12 23456 K)
 (ref19_Put_j2 p0 four1 b6_1 i7 k9 next5 next12 (x53.toNat : Int) K)))
 (next5 (b6_1, (IntKind.wrap .i64 (i7 + 1)), ()))
def ref19_Put_j0 (p0 : List (Bool × List UInt32)) (four1 : Bool) (b6 : List UInt8) (i7 : Int) (next5 : (List UInt8 × Int × Unit) → Prop) (j4 : Int) (K : List UInt8 → Int → Prop) : Prop :=
 (0 : Int) ≤ i7 ∧ AtN p0 i7.toNat fun x30 =>
 WfT ks_bool_lst_int_u32 x30 →
 b6.length + ([(ofI .u8 j4), (ofI .u8 (IntKind.wrap .u8 (x30.2.length : Int)))] : List UInt8).length ≤ 140737488355232 ∧
 LoopJ (List UInt8 × Int × Unit) ((b6 ++ ([(ofI .u8 j4), (ofI .u8 (IntKind.wrap .u8 (x30.2.length : Int)))] : List UInt8)), (0 : Int), ()) fun y next =>
 WfY pl_ref19_Put_12.kinds y →
 ref19_Put_l12 p0 four1 i7 next5 y.1 y.2.1 next K
def ref19_Put_l5 (p0 : List (Bool × List UInt32)) (four1 : Bool) (b6 : List UInt8) (i7 : Int) (next5 : (List UInt8 × Int × Unit) → Prop) (K : List UInt8 → Int → Prop) : Prop :=
 IfB (decide ((i7 : Int) < (p0.length : Int)))
 ((0 : Int) ≤ i7 ∧ AtN p0 i7.toNat fun x23 =>
 WfT ks_bool_lst_int_u32 x23 →
 IfB x23.1
 (ref19_Put_j0 p0 four1 b6 i7 next5 1 K)
 (ref19_Put_j0 p0 four1 b6 i7 next5 2 K))
 (K b6 0)
def ref19_Put_q (p0 : List (Bool × List UInt32)) (four1 : Bool) (K : List UInt8 → Int → Prop) : Prop :=
 (WfPs ref19_Check_ps (p0, ()) →
 ref19_Check_q p0 (fun x12 =>
 WfPs ref19_Check_rs (x12, ()) →
 IfB ((x12 : Int) != 0)
 (K ([] : List UInt8) 2)
 (LoopJ (List UInt8 × Int × Unit) (([] : List UInt8), (0 : Int), ()) fun y next =>
 WfY pl_ref19_Put_5.kinds y →
 ref19_Put_l5 p0 four1 y.1 y.2.1 next K)))
noncomputable def tab_ref19_Put : List (Nat × Ct) := [(f_ref19_Check, ct_ref19_Check)]
theorem ref19_Put_eq (p0 : List (Bool × List UInt32)) (four1 : Bool) (K : PkTs ref19_Put_rs → Prop) : ref19_Put_q p0 four1 (fun r0 r1 => K (r0, r1, ())) = PCode Try.prog tab_ref19_Put plan_ref19_Put (bodyOf Try.f29) (parS ref19_Put_ps (p0, four1, ())) (PRet Try.prog Try.f29.results.toList fun a st => outP ref19_Put_rs st a K) := by kernel_rfl
theorem ref19_Put_fq : FnQ Try.prog f_ref19_Put ref19_Put_ps ref19_Put_rs (fun x K => ref19_Put_q x.1 x.2.1 (fun r0 r1 => K (r0, r1, ()))) := (fnQ_of k_ref19_Put (tab := tab_ref19_Put) ⟨ct_ref19_Check_ok, trivial⟩ rfl).mono fun x K h => Eq.mp (ref19_Put_eq x.1 x.2.1 K) h
noncomputable def ct_ref19_Put : Ct := ctVal ref19_Put_ps ref19_Put_rs (fun x K => ref19_Put_q x.1 x.2.1 (fun r0 r1 => K (r0, r1, ())))
theorem ct_ref19_Put_ok : SoundCt Try.prog f_ref19_Put ct_ref19_Put := ctVal_sound ref19_Put_fq
def plan_ref20_put : PPlan := ⟨[], [], [], []⟩
theorem k_ref20_put : Known Try.prog f_ref20_put Try.f30 plan_ref20_put.plan (bodyOf Try.f30) := ⟨Try.func30, by kernel_rfl, by kernel_rfl, by kernel_rfl, by kernel_rfl, by kernel_rfl⟩
abbrev ref20_put_ps : List Pk := [Pk.own T_uint8 [Kd.int .u8], Pk.int .u8, Pk.int .i64, Pk.lst [Kd.int .u8]]
abbrev ref20_put_rs : List Pk := [Pk.own T_uint8 [Kd.int .u8]]
def ref20_put_q (b0 : List UInt8) (flags1 : Int) (kind2 : Int) (data3 : List UInt8) (K : List UInt8 → Prop) : Prop :=
 IfB (decide (((data3.length : Int) : Int) > 255))
 ((256 : Int) ≠ 0 ∧
 (256 : Int) ≠ 0 ∧
 b0.length + ([(ofI .u8 (IntKind.wrap .u8 (flags1 + 16))), (ofI .u8 (IntKind.wrap .u8 kind2)), (ofI .u8 (IntKind.wrap .u8 (IntKind.wrap .i64 (Int.tdiv (data3.length : Int) 256)))), (ofI .u8 (IntKind.wrap .u8 (Int.tmod (data3.length : Int) 256)))] : List UInt8).length ≤ 140737488355232 ∧
 (b0 ++ ([(ofI .u8 (IntKind.wrap .u8 (flags1 + 16))), (ofI .u8 (IntKind.wrap .u8 kind2)), (ofI .u8 (IntKind.wrap .u8 (IntKind.wrap .i64 (Int.tdiv (data3.length : Int) 256)))), (ofI .u8 (IntKind.wrap .u8 (Int.tmod (data3.length : Int) 256)))] : List UInt8)).length + data3.length ≤ 140737488355232 ∧
 K ((b0 ++ ([(ofI .u8 (IntKind.wrap .u8 (flags1 + 16))), (ofI .u8 (IntKind.wrap .u8 kind2)), (ofI .u8 (IntKind.wrap .u8 (IntKind.wrap .i64 (Int.tdiv (data3.length : Int) 256)))), (ofI .u8 (IntKind.wrap .u8 (Int.tmod (data3.length : Int) 256)))] : List UInt8)) ++ data3))
 (b0.length + ([(ofI .u8 flags1), (ofI .u8 (IntKind.wrap .u8 kind2)), (ofI .u8 (IntKind.wrap .u8 (data3.length : Int)))] : List UInt8).length ≤ 140737488355232 ∧
 (b0 ++ ([(ofI .u8 flags1), (ofI .u8 (IntKind.wrap .u8 kind2)), (ofI .u8 (IntKind.wrap .u8 (data3.length : Int)))] : List UInt8)).length + data3.length ≤ 140737488355232 ∧
 K ((b0 ++ ([(ofI .u8 flags1), (ofI .u8 (IntKind.wrap .u8 kind2)), (ofI .u8 (IntKind.wrap .u8 (data3.length : Int)))] : List UInt8)) ++ data3))
noncomputable def tab_ref20_put : List (Nat × Ct) := []
theorem ref20_put_eq (b0 : List UInt8) (flags1 : Int) (kind2 : Int) (data3 : List UInt8) (K : PkTs ref20_put_rs → Prop) : ref20_put_q b0 flags1 kind2 data3 (fun r0 => K (r0, ())) = PCode Try.prog tab_ref20_put plan_ref20_put (bodyOf Try.f30) (parS ref20_put_ps (b0, flags1, kind2, data3, ())) (PRet Try.prog Try.f30.results.toList fun a st => outP ref20_put_rs st a K) := by kernel_rfl
theorem ref20_put_fq : FnQ Try.prog f_ref20_put ref20_put_ps ref20_put_rs (fun x K => ref20_put_q x.1 x.2.1 x.2.2.1 x.2.2.2.1 (fun r0 => K (r0, ()))) := (fnQ_of k_ref20_put (tab := tab_ref20_put) trivial rfl).mono fun x K h => Eq.mp (ref20_put_eq x.1 x.2.1 x.2.2.1 x.2.2.2.1 K) h
noncomputable def ct_ref20_put : Ct := ctVal ref20_put_ps ref20_put_rs (fun x K => ref20_put_q x.1 x.2.1 x.2.2.1 x.2.2.2.1 (fun r0 => K (r0, ())))
theorem ct_ref20_put_ok : SoundCt Try.prog f_ref20_put ct_ref20_put := ctVal_sound ref20_put_fq
def plan_ref20_num4 : PPlan := ⟨[], [], [], []⟩
theorem k_ref20_num4 : Known Try.prog f_ref20_num4 Try.f31 plan_ref20_num4.plan (bodyOf Try.f31) := ⟨Try.func31, by kernel_rfl, by kernel_rfl, by kernel_rfl, by kernel_rfl, by kernel_rfl⟩
abbrev ref20_num4_ps : List Pk := [Pk.int .u32]
abbrev ref20_num4_rs : List Pk := [Pk.own T_uint8 [Kd.int .u8]]
def ref20_num4_q (n0 : Int) (K : List UInt8 → Prop) : Prop :=
 (16777216 : Int) ≠ 0 ∧
 (65536 : Int) ≠ 0 ∧
 (256 : Int) ≠ 0 ∧
 (256 : Int) ≠ 0 ∧
 (256 : Int) ≠ 0 ∧
 (256 : Int) ≠ 0 ∧
 K ([(ofI .u8 (IntKind.wrap .u8 (IntKind.wrap .u32 (Int.tdiv n0 16777216)))), (ofI .u8 (IntKind.wrap .u8 (Int.tmod (IntKind.wrap .u32 (Int.tdiv n0 65536)) 256))), (ofI .u8 (IntKind.wrap .u8 (Int.tmod (IntKind.wrap .u32 (Int.tdiv n0 256)) 256))), (ofI .u8 (IntKind.wrap .u8 (Int.tmod n0 256)))] : List UInt8)
noncomputable def tab_ref20_num4 : List (Nat × Ct) := []
theorem ref20_num4_eq (n0 : Int) (K : PkTs ref20_num4_rs → Prop) : ref20_num4_q n0 (fun r0 => K (r0, ())) = PCode Try.prog tab_ref20_num4 plan_ref20_num4 (bodyOf Try.f31) (parS ref20_num4_ps (n0, ())) (PRet Try.prog Try.f31.results.toList fun a st => outP ref20_num4_rs st a K) := by kernel_rfl
theorem ref20_num4_fq : FnQ Try.prog f_ref20_num4 ref20_num4_ps ref20_num4_rs (fun x K => ref20_num4_q x.1 (fun r0 => K (r0, ()))) := (fnQ_of k_ref20_num4 (tab := tab_ref20_num4) trivial rfl).mono fun x K h => Eq.mp (ref20_num4_eq x.1 K) h
noncomputable def ct_ref20_num4 : Ct := ctVal ref20_num4_ps ref20_num4_rs (fun x K => ref20_num4_q x.1 (fun r0 => K (r0, ())))
theorem ct_ref20_num4_ok : SoundCt Try.prog f_ref20_num4 ct_ref20_num4 := ctVal_sound ref20_num4_fq
def pl_ref20_great_2 : PLoop := ⟨[(3, PK.int .i64)], [0], none⟩
def pl_ref20_great_5 : PLoop := ⟨[(4, PK.int .i64)], [0, 3], none⟩
def plan_ref20_great : PPlan := ⟨[], [(2, pl_ref20_great_2), (5, pl_ref20_great_5)], [], []⟩
theorem k_ref20_great : Known Try.prog f_ref20_great Try.f32 plan_ref20_great.plan (bodyOf Try.f32) := ⟨Try.func32, by kernel_rfl, by kernel_rfl, by kernel_rfl, by kernel_rfl, by kernel_rfl⟩
abbrev ref20_great_ps : List Pk := [Pk.lst [Kd.bool, Kd.lst [Kd.int .u32]]]
abbrev ref20_great_rs : List Pk := [Pk.bool]
def ref20_great_l5 (p0 : List (Bool × List UInt32)) (i3 : Int) (next2 : (Int × Unit) → Prop) (k4 : Int) (next5 : (Int × Unit) → Prop) (K : Bool → Prop) : Prop :=
 (0 : Int) ≤ i3 ∧ AtN p0 i3.toNat fun x14 =>
 WfT ks_bool_lst_int_u32 x14 →
 IfB (decide ((k4 : Int) < (x14.2.length : Int)))
 ((0 : Int) ≤ i3 ∧ AtN p0 i3.toNat fun x23 =>
 WfT ks_bool_lst_int_u32 x23 →
 (0 : Int) ≤ k4 ∧ AtN x23.2 k4.toNat fun x27 =>
 WfT ks_int_u32 x27 →
 IfB (decide (((x27.toNat : Int) : Int) > 65535))
 (K true)
 (next5 ((IntKind.wrap .i64 (k4 + 1)), ())))
 (next2 ((IntKind.wrap .i64 (i3 + 1)), ()))
def ref20_great_l2 (p0 : List (Bool × List UInt32)) (i3 : Int) (next2 : (Int × Unit) → Prop) (K : Bool → Prop) : Prop :=
 IfB (decide ((i3 : Int) < (p0.length : Int)))
 (LoopJ (Int × Unit) ((0 : Int), ()) fun y next =>
 WfY pl_ref20_great_5.kinds y →
 ref20_great_l5 p0 i3 next2 y.1 next K)
 (K false)
def ref20_great_q (p0 : List (Bool × List UInt32)) (K : Bool → Prop) : Prop :=
 LoopJ (Int × Unit) ((0 : Int), ()) fun y next =>
 WfY pl_ref20_great_2.kinds y →
 ref20_great_l2 p0 y.1 next K
noncomputable def tab_ref20_great : List (Nat × Ct) := []
theorem ref20_great_eq (p0 : List (Bool × List UInt32)) (K : PkTs ref20_great_rs → Prop) : ref20_great_q p0 (fun r0 => K (r0, ())) = PCode Try.prog tab_ref20_great plan_ref20_great (bodyOf Try.f32) (parS ref20_great_ps (p0, ())) (PRet Try.prog Try.f32.results.toList fun a st => outP ref20_great_rs st a K) := by kernel_rfl
theorem ref20_great_fq : FnQ Try.prog f_ref20_great ref20_great_ps ref20_great_rs (fun x K => ref20_great_q x.1 (fun r0 => K (r0, ()))) := (fnQ_of k_ref20_great (tab := tab_ref20_great) trivial rfl).mono fun x K h => Eq.mp (ref20_great_eq x.1 K) h
noncomputable def ct_ref20_great : Ct := ctBor ref20_great_ps ref20_great_rs (fun x K => ref20_great_q x.1 (fun r0 => K (r0, ())))
theorem ct_ref20_great_ok : SoundCt Try.prog f_ref20_great ct_ref20_great := ctBor_sound ref20_great_fq
def pl_ref20_Put_21 : PLoop := ⟨[(10, PK.row T_uint8 [Kd.int .u8]), (11, PK.int .i64)], [1, 2, 8], none⟩
def pl_ref20_Put_31 : PLoop := ⟨[(8, PK.row T_uint8 [Kd.int .u8]), (12, PK.int .i64)], [2], none⟩
def plan_ref20_Put : PPlan := ⟨[(29, [0, 1, 2, 4, 5, 3, 6, 7, 8, 9], [122])], [(21, pl_ref20_Put_21), (31, pl_ref20_Put_31)], [55], []⟩
theorem k_ref20_Put : Known Try.prog f_ref20_Put Try.f10 plan_ref20_Put.plan (bodyOf Try.f10) := ⟨Try.func10, by kernel_rfl, by kernel_rfl, by kernel_rfl, by kernel_rfl, by kernel_rfl⟩
abbrev ref20_Put_ps : List Pk := [Pk.agg [Kd.int .i64, Kd.lst [Kd.bool, Kd.lst [Kd.int .u32]], Kd.int .u32, Kd.bool, Kd.int .u32, Kd.bool, Kd.int .u32, Kd.bool, Kd.bool, Kd.int .u32, Kd.int .u32, Kd.lst [Kd.int .u32], Kd.lst [Kd.int .i64, Kd.lst [Kd.int .u8]]], Pk.bool]
abbrev ref20_Put_rs : List Pk := [Pk.own T_uint8 [Kd.int .u8], Pk.int .i64]
def ref20_Put_l31 (a0 : Int × List (Bool × List UInt32) × UInt32 × Bool × UInt32 × Bool × UInt32 × Bool × Bool × UInt32 × UInt32 × List UInt32 × List (Int × List UInt8)) (b8 : List UInt8) (i12 : Int) (next31 : (List UInt8 × Int × Unit) → Prop) (K : List UInt8 → Int → Prop) : Prop :=
 IfB (decide ((i12 : Int) < (a0.2.2.2.2.2.2.2.2.2.2.2.2.length : Int)))
 ((0 : Int) ≤ i12 ∧ AtN a0.2.2.2.2.2.2.2.2.2.2.2.2 i12.toNat fun x137 =>
 WfT ks_int_i64_lst_int_u8 x137 →
 (0 : Int) ≤ i12 ∧ AtN a0.2.2.2.2.2.2.2.2.2.2.2.2 i12.toNat fun x143 =>
 WfT ks_int_i64_lst_int_u8 x143 →
 (WfPs ref20_put_ps (b8, (224 : Int), x137.1, x143.2, ()) →
 ref20_put_q b8 (224 : Int) x137.1 x143.2 (fun x146 =>
 WfPs ref20_put_rs (x146, ()) →
 next31 (x146, (IntKind.wrap .i64 (i12 + 1)), ()))))
 (K b8 0)
def ref20_Put_j10 (a0 : Int × List (Bool × List UInt32) × UInt32 × Bool × UInt32 × Bool × UInt32 × Bool × Bool × UInt32 × UInt32 × List UInt32 × List (Int × List UInt8)) (j13 : List UInt8) (K : List UInt8 → Int → Prop) : Prop :=
 LoopJ (List UInt8 × Int × Unit) (j13, (0 : Int), ()) fun y next =>
 WfY pl_ref20_Put_31.kinds y →
 ref20_Put_l31 a0 y.1 y.2.1 next K
def ref20_Put_j9 (a0 : Int × List (Bool × List UInt32) × UInt32 × Bool × UInt32 × Bool × UInt32 × Bool × Bool × UInt32 × UInt32 × List UInt32 × List (Int × List UInt8)) (j13 : List UInt8) (K : List UInt8 → Int → Prop) : Prop :=
 ref20_Put_j10 a0 j13 K
def ref20_Put_j8 (a0 : Int × List (Bool × List UInt32) × UInt32 × Bool × UInt32 × Bool × UInt32 × Bool × Bool × UInt32 × UInt32 × List UInt32 × List (Int × List UInt8)) (j14_4 : List UInt8) (j14_5 : Bool) (K : List UInt8 → Int → Prop) : Prop :=
 IfB j14_5
 ((WfPs ref20_num4_ps ((a0.2.2.2.2.2.2.2.2.2.1.toNat : Int), ()) →
 ref20_num4_q (a0.2.2.2.2.2.2.2.2.2.1.toNat : Int) (fun x120 =>
 WfPs ref20_num4_rs (x120, ()) →
 (WfPs ref20_num4_ps ((a0.2.2.2.2.2.2.2.2.2.2.1.toNat : Int), ()) →
 ref20_num4_q (a0.2.2.2.2.2.2.2.2.2.2.1.toNat : Int) (fun x123 =>
 WfPs ref20_num4_rs (x123, ()) →
 x120.length + x123.length ≤ 140737488355232 ∧
 (WfPs ref20_put_ps (j14_4, (192 : Int), (18 : Int), (x120 ++ x123), ()) →
 ref20_put_q j14_4 (192 : Int) (18 : Int) (x120 ++ x123) (fun x125 =>
 WfPs ref20_put_rs (x125, ()) →
 ref20_Put_j9 a0 x125 K)))))))
 (ref20_Put_j9 a0 j14_4 K)
def ref20_Put_j7 (four1 : Bool) (a0 : Int × List (Bool × List UInt32) × UInt32 × Bool × UInt32 × Bool × UInt32 × Bool × Bool × UInt32 × UInt32 × List UInt32 × List (Int × List UInt8)) (j14_4 : List UInt8) (K : List UInt8 → Int → Prop) : Prop :=
 IfB (!four1)
 (IfB a0.2.2.2.2.2.2.2.2.1
 (ref20_Put_j8 a0 j14_4 (decide (((a0.2.2.2.2.2.2.2.2.2.1.toNat : Int) : Int) > 65535)) K)
 (ref20_Put_j8 a0 j14_4 false K))
 (ref20_Put_j8 a0 j14_4 false K)
def ref20_Put_j6 (four1 : Bool) (a0 : Int × List (Bool × List UInt32) × UInt32 × Bool × UInt32 × Bool × UInt32 × Bool × Bool × UInt32 × UInt32 × List UInt32 × List (Int × List UInt8)) (j14_3 : List UInt8) (j15_1 : Bool) (K : List UInt8 → Int → Prop) : Prop :=
 IfB j15_1
 ((WfPs ref19_Put_ps (a0.2.1, true, ()) →
 ref19_Put_q a0.2.1 true (fun x100r0 x100r1 =>
 WfPs ref19_Put_rs (x100r0, x100r1, ()) →
 (WfPs ref20_put_ps (j14_3, (192 : Int), (17 : Int), x100r0, ()) →
 ref20_put_q j14_3 (192 : Int) (17 : Int) x100r0 (fun x105 =>
 WfPs ref20_put_rs (x105, ()) →
 ref20_Put_j7 four1 a0 x105 K)))))
 (ref20_Put_j7 four1 a0 j14_3 K)
def ref20_Put_j5 (four1 : Bool) (a0 : Int × List (Bool × List UInt32) × UInt32 × Bool × UInt32 × Bool × UInt32 × Bool × Bool × UInt32 × UInt32 × List UInt32 × List (Int × List UInt8)) (j14_3 : List UInt8) (K : List UInt8 → Int → Prop) : Prop :=
 IfB (!four1)
 ((WfPs ref20_great_ps (a0.2.1, ()) →
 ref20_great_q a0.2.1 (fun x95 =>
 WfPs ref20_great_rs (x95, ()) →
 ref20_Put_j6 four1 a0 j14_3 x95 K)))
 (ref20_Put_j6 four1 a0 j14_3 false K)
def ref20_Put_l21 (four1 : Bool) (a0 : Int × List (Bool × List UInt32) × UInt32 × Bool × UInt32 × Bool × UInt32 × Bool × Bool × UInt32 × UInt32 × List UInt32 × List (Int × List UInt8)) (j14_2 : List UInt8) (c10 : List UInt8) (i11 : Int) (next21 : (List UInt8 × Int × Unit) → Prop) (K : List UInt8 → Int → Prop) : Prop :=
 IfB (decide ((i11 : Int) < (a0.2.2.2.2.2.2.2.2.2.2.2.1.length : Int)))
 ((0 : Int) ≤ i11 ∧ AtN a0.2.2.2.2.2.2.2.2.2.2.2.1 i11.toNat fun x83 =>
 WfT ks_int_u32 x83 →
 (WfPs ref20_num4_ps ((x83.toNat : Int), ()) →
 ref20_num4_q (x83.toNat : Int) (fun x85 =>
 WfPs ref20_num4_rs (x85, ()) →
 c10.length + x85.length ≤ 140737488355232 ∧
 next21 ((c10 ++ x85), (IntKind.wrap .i64 (i11 + 1)), ()))))
 ((WfPs ref20_put_ps (j14_2, (192 : Int), (8 : Int), c10, ()) →
 ref20_put_q j14_2 (192 : Int) (8 : Int) c10 (fun x89 =>
 WfPs ref20_put_rs (x89, ()) →
 ref20_Put_j5 four1 a0 x89 K)))
def ref20_Put_j4 (four1 : Bool) (a0 : Int × List (Bool × List UInt32) × UInt32 × Bool × UInt32 × Bool × UInt32 × Bool × Bool × UInt32 × UInt32 × List UInt32 × List (Int × List UInt8)) (j14_2 : List UInt8) (K : List UInt8 → Int → Prop) : Prop :=
 IfB (decide (((a0.2.2.2.2.2.2.2.2.2.2.2.1.length : Int) : Int) > 0))
 (LoopJ (List UInt8 × Int × Unit) (([] : List UInt8), (0 : Int), ()) fun y next =>
 WfY pl_ref20_Put_21.kinds y →
 ref20_Put_l21 four1 a0 j14_2 y.1 y.2.1 next K)
 (ref20_Put_j5 four1 a0 j14_2 K)
def ref20_Put_j3 (four1 : Bool) (a0 : Int × List (Bool × List UInt32) × UInt32 × Bool × UInt32 × Bool × UInt32 × Bool × Bool × UInt32 × UInt32 × List UInt32 × List (Int × List UInt8)) (j14_2 : List UInt8) (K : List UInt8 → Int → Prop) : Prop :=
 ref20_Put_j4 four1 a0 j14_2 K
def ref20_Put_j2 (four1 : Bool) (a0 : Int × List (Bool × List UInt32) × UInt32 × Bool × UInt32 × Bool × UInt32 × Bool × Bool × UInt32 × UInt32 × List UInt32 × List (Int × List UInt8)) (j14_1 : List UInt8) (j15 : List UInt8) (K : List UInt8 → Int → Prop) : Prop :=
 (WfPs ref20_num4_ps ((a0.2.2.2.2.2.2.2.2.2.2.1.toNat : Int), ()) →
 ref20_num4_q (a0.2.2.2.2.2.2.2.2.2.2.1.toNat : Int) (fun x64 =>
 WfPs ref20_num4_rs (x64, ()) →
 j15.length + x64.length ≤ 140737488355232 ∧
 (WfPs ref20_put_ps (j14_1, (192 : Int), (7 : Int), (j15 ++ x64), ()) →
 ref20_put_q j14_1 (192 : Int) (7 : Int) (j15 ++ x64) (fun x66 =>
 WfPs ref20_put_rs (x66, ()) →
 ref20_Put_j3 four1 a0 x66 K))))
def ref20_Put_j1 (four1 : Bool) (a0 : Int × List (Bool × List UInt32) × UInt32 × Bool × UInt32 × Bool × UInt32 × Bool × Bool × UInt32 × UInt32 × List UInt32 × List (Int × List UInt8)) (j14_1 : List UInt8) (K : List UInt8 → Int → Prop) : Prop :=
 IfB a0.2.2.2.2.2.2.2.2.1
 ((WfPs ref20_num4_ps ((a0.2.2.2.2.2.2.2.2.2.1.toNat : Int), ()) →
 ref20_num4_q (a0.2.2.2.2.2.2.2.2.2.1.toNat : Int) (fun x51 =>
 WfPs ref20_num4_rs (x51, ()) →
 IfB (!four1)
 ((0 : Int) ≤ 2 ∧ 2 ≤ (x51.length : Int) ∧
 IfB (decide (((a0.2.2.2.2.2.2.2.2.2.1.toNat : Int) : Int) > 65535))
 (ref20_Put_j2 four1 a0 j14_1 ([(ofI .u8 91), (ofI .u8 160)] : List UInt8) K)
 (ref20_Put_j2 four1 a0 j14_1 (x51.drop 2) K))
 (ref20_Put_j2 four1 a0 j14_1 x51 K))))
 (ref20_Put_j3 four1 a0 j14_1 K)
def ref20_Put_j0 (four1 : Bool) (a0 : Int × List (Bool × List UInt32) × UInt32 × Bool × UInt32 × Bool × UInt32 × Bool × Bool × UInt32 × UInt32 × List UInt32 × List (Int × List UInt8)) (j14 : List UInt8) (K : List UInt8 → Int → Prop) : Prop :=
 IfB a0.2.2.2.2.2.2.2.1
 ((WfPs ref20_put_ps (j14, (64 : Int), (6 : Int), ([] : List UInt8), ()) →
 ref20_put_q j14 (64 : Int) (6 : Int) ([] : List UInt8) (fun x46 =>
 WfPs ref20_put_rs (x46, ()) →
 ref20_Put_j1 four1 a0 x46 K)))
 (ref20_Put_j1 four1 a0 j14 K)
def ref20_Put_q (a0 : Int × List (Bool × List UInt32) × UInt32 × Bool × UInt32 × Bool × UInt32 × Bool × Bool × UInt32 × UInt32 × List UInt32 × List (Int × List UInt8)) (four1 : Bool) (K : List UInt8 → Int → Prop) : Prop :=
 (WfPs ref20_Check_ps (((a0.1, a0.2.1, (ofI .u32 (a0.2.2.1.toNat : Int)), a0.2.2.2.1, (ofI .u32 (a0.2.2.2.2.1.toNat : Int)), a0.2.2.2.2.2.1, (ofI .u32 (a0.2.2.2.2.2.2.1.toNat : Int)), a0.2.2.2.2.2.2.2.1, a0.2.2.2.2.2.2.2.2.1, (ofI .u32 (a0.2.2.2.2.2.2.2.2.2.1.toNat : Int)), (ofI .u32 (a0.2.2.2.2.2.2.2.2.2.2.1.toNat : Int)), a0.2.2.2.2.2.2.2.2.2.2.2.1, a0.2.2.2.2.2.2.2.2.2.2.2.2) : Int × List (Bool × List UInt32) × UInt32 × Bool × UInt32 × Bool × UInt32 × Bool × Bool × UInt32 × UInt32 × List UInt32 × List (Int × List UInt8)), ()) →
 ref20_Check_q ((a0.1, a0.2.1, (ofI .u32 (a0.2.2.1.toNat : Int)), a0.2.2.2.1, (ofI .u32 (a0.2.2.2.2.1.toNat : Int)), a0.2.2.2.2.2.1, (ofI .u32 (a0.2.2.2.2.2.2.1.toNat : Int)), a0.2.2.2.2.2.2.2.1, a0.2.2.2.2.2.2.2.2.1, (ofI .u32 (a0.2.2.2.2.2.2.2.2.2.1.toNat : Int)), (ofI .u32 (a0.2.2.2.2.2.2.2.2.2.2.1.toNat : Int)), a0.2.2.2.2.2.2.2.2.2.2.2.1, a0.2.2.2.2.2.2.2.2.2.2.2.2) : Int × List (Bool × List UInt32) × UInt32 × Bool × UInt32 × Bool × UInt32 × Bool × Bool × UInt32 × UInt32 × List UInt32 × List (Int × List UInt8)) (fun x14 =>
 WfPs ref20_Check_rs (x14, ()) →
 IfB ((x14 : Int) != 0)
 (K ([] : List UInt8) 2)
 ((WfPs ref19_Put_ps (a0.2.1, four1, ()) →
 ref19_Put_q a0.2.1 four1 (fun x20r0 x20r1 =>
 WfPs ref19_Put_rs (x20r0, x20r1, ()) →
 (WfPs ref20_put_ps (([] : List UInt8), (64 : Int), (1 : Int), ([(ofI .u8 (IntKind.wrap .u8 a0.1))] : List UInt8), ()) →
 ref20_put_q ([] : List UInt8) (64 : Int) (1 : Int) ([(ofI .u8 (IntKind.wrap .u8 a0.1))] : List UInt8) (fun x27 =>
 WfPs ref20_put_rs (x27, ()) →
 (WfPs ref20_put_ps (x27, (64 : Int), (2 : Int), x20r0, ()) →
 ref20_put_q x27 (64 : Int) (2 : Int) x20r0 (fun x30 =>
 WfPs ref20_put_rs (x30, ()) →
 (WfPs ref20_num4_ps ((a0.2.2.1.toNat : Int), ()) →
 ref20_num4_q (a0.2.2.1.toNat : Int) (fun x34 =>
 WfPs ref20_num4_rs (x34, ()) →
 (WfPs ref20_put_ps (x30, (64 : Int), (3 : Int), x34, ()) →
 ref20_put_q x30 (64 : Int) (3 : Int) x34 (fun x35 =>
 WfPs ref20_put_rs (x35, ()) →
 IfB a0.2.2.2.1
 ((WfPs ref20_num4_ps ((a0.2.2.2.2.1.toNat : Int), ()) →
 ref20_num4_q (a0.2.2.2.2.1.toNat : Int) (fun x41 =>
 WfPs ref20_num4_rs (x41, ()) →
 (WfPs ref20_put_ps (x35, (128 : Int), (4 : Int), x41, ()) →
 ref20_put_q x35 (128 : Int) (4 : Int) x41 (fun x42 =>
 WfPs ref20_put_rs (x42, ()) →
 ref20_Put_j0 four1 a0 x42 K)))))
 (ref20_Put_j0 four1 a0 x35 K))))))))))))))
noncomputable def tab_ref20_Put : List (Nat × Ct) := [(f_ref20_Check, ct_ref20_Check), (f_ref19_Put, ct_ref19_Put), (f_ref20_put, ct_ref20_put), (f_ref20_num4, ct_ref20_num4), (f_ref20_great, ct_ref20_great)]
theorem ref20_Put_eq (a0 : Int × List (Bool × List UInt32) × UInt32 × Bool × UInt32 × Bool × UInt32 × Bool × Bool × UInt32 × UInt32 × List UInt32 × List (Int × List UInt8)) (four1 : Bool) (K : PkTs ref20_Put_rs → Prop) : ref20_Put_q a0 four1 (fun r0 r1 => K (r0, r1, ())) = PCode Try.prog tab_ref20_Put plan_ref20_Put (bodyOf Try.f10) (parS ref20_Put_ps (a0, four1, ())) (PRet Try.prog Try.f10.results.toList fun a st => outP ref20_Put_rs st a K) := by kernel_rfl
theorem ref20_Put_fq : FnQ Try.prog f_ref20_Put ref20_Put_ps ref20_Put_rs (fun x K => ref20_Put_q x.1 x.2.1 (fun r0 r1 => K (r0, r1, ()))) := (fnQ_of k_ref20_Put (tab := tab_ref20_Put) ⟨ct_ref20_Check_ok, ct_ref19_Put_ok, ct_ref20_put_ok, ct_ref20_num4_ok, ct_ref20_great_ok, trivial⟩ rfl).mono fun x K h => Eq.mp (ref20_Put_eq x.1 x.2.1 K) h
noncomputable def ct_ref20_Put : Ct := ctVal ref20_Put_ps ref20_Put_rs (fun x K => ref20_Put_q x.1 x.2.1 (fun r0 r1 => K (r0, r1, ())))
theorem ct_ref20_Put_ok : SoundCt Try.prog f_ref20_Put ct_ref20_Put := ctVal_sound ref20_Put_fq
def plan_base_SameBytes : PPlan := ⟨[], [], [], []⟩
theorem k_base_SameBytes : Known Try.prog f_base_SameBytes Try.f13 plan_base_SameBytes.plan (bodyOf Try.f13) := ⟨Try.func13, by kernel_rfl, by kernel_rfl, by kernel_rfl, by kernel_rfl, by kernel_rfl⟩
abbrev base_SameBytes_ps : List Pk := [Pk.lst [Kd.int .u8], Pk.lst [Kd.int .u8]]
abbrev base_SameBytes_rs : List Pk := [Pk.bool]
def base_SameBytes_q (a0 : List UInt8) (b1 : List UInt8) (K : Bool → Prop) : Prop :=
 K (a0 == b1)
noncomputable def tab_base_SameBytes : List (Nat × Ct) := []
theorem base_SameBytes_eq (a0 : List UInt8) (b1 : List UInt8) (K : PkTs base_SameBytes_rs → Prop) : base_SameBytes_q a0 b1 (fun r0 => K (r0, ())) = PCode Try.prog tab_base_SameBytes plan_base_SameBytes (bodyOf Try.f13) (parS base_SameBytes_ps (a0, b1, ())) (PRet Try.prog Try.f13.results.toList fun a st => outP base_SameBytes_rs st a K) := by kernel_rfl
theorem base_SameBytes_fq : FnQ Try.prog f_base_SameBytes base_SameBytes_ps base_SameBytes_rs (fun x K => base_SameBytes_q x.1 x.2.1 (fun r0 => K (r0, ()))) := (fnQ_of k_base_SameBytes (tab := tab_base_SameBytes) trivial rfl).mono fun x K h => Eq.mp (base_SameBytes_eq x.1 x.2.1 K) h
noncomputable def ct_base_SameBytes : Ct := ctBor base_SameBytes_ps base_SameBytes_rs (fun x K => base_SameBytes_q x.1 x.2.1 (fun r0 => K (r0, ())))
theorem ct_base_SameBytes_ok : SoundCt Try.prog f_base_SameBytes ct_base_SameBytes := ctBor_sound base_SameBytes_fq
def plan_law20_works : PPlan := ⟨[], [], [], []⟩
theorem k_law20_works : Known Try.prog f_law20_works Try.f14 plan_law20_works.plan (bodyOf Try.f14) := ⟨Try.func14, by kernel_rfl, by kernel_rfl, by kernel_rfl, by kernel_rfl, by kernel_rfl⟩
abbrev law20_works_ps : List Pk := []
abbrev law20_works_rs : List Pk := [Pk.bool]
def law20_works_q  (K : Bool → Prop) : Prop :=
 (WfPs attr_Put_ps (((0, ([(false, ([(ofI .u32 65001)] : List UInt32))] : List (Bool × List UInt32)), (ofI .u32 167772161), false, (ofI .u32 0), false, (ofI .u32 0), false, false, (ofI .u32 0), (ofI .u32 0), ([] : List UInt32), ([] : List (Int × List UInt8))) : Int × List (Bool × List UInt32) × UInt32 × Bool × UInt32 × Bool × UInt32 × Bool × Bool × UInt32 × UInt32 × List UInt32 × List (Int × List UInt8)), false, ()) →
 attr_Put_q ((0, ([(false, ([(ofI .u32 65001)] : List UInt32))] : List (Bool × List UInt32)), (ofI .u32 167772161), false, (ofI .u32 0), false, (ofI .u32 0), false, false, (ofI .u32 0), (ofI .u32 0), ([] : List UInt32), ([] : List (Int × List UInt8))) : Int × List (Bool × List UInt32) × UInt32 × Bool × UInt32 × Bool × UInt32 × Bool × Bool × UInt32 × UInt32 × List UInt32 × List (Int × List UInt8)) false (fun x8r0 x8r1 =>
 WfPs attr_Put_rs (x8r0, x8r1, ()) →
 IfB ((x8r1 : Int) == 0)
 ((WfPs base_SameBytes_ps (x8r0, ([(ofI .u8 64), (ofI .u8 1), (ofI .u8 1), (ofI .u8 0), (ofI .u8 64), (ofI .u8 2), (ofI .u8 4), (ofI .u8 2), (ofI .u8 1), (ofI .u8 253), (ofI .u8 233), (ofI .u8 64), (ofI .u8 3), (ofI .u8 4), (ofI .u8 10), (ofI .u8 0), (ofI .u8 0), (ofI .u8 1)] : List UInt8), ()) →
 base_SameBytes_q x8r0 ([(ofI .u8 64), (ofI .u8 1), (ofI .u8 1), (ofI .u8 0), (ofI .u8 64), (ofI .u8 2), (ofI .u8 4), (ofI .u8 2), (ofI .u8 1), (ofI .u8 253), (ofI .u8 233), (ofI .u8 64), (ofI .u8 3), (ofI .u8 4), (ofI .u8 10), (ofI .u8 0), (ofI .u8 0), (ofI .u8 1)] : List UInt8) (fun x16 =>
 WfPs base_SameBytes_rs (x16, ()) →
 K x16)))
 (K false)))
noncomputable def tab_law20_works : List (Nat × Ct) := [(f_attr_Put, ct_attr_Put), (f_base_SameBytes, ct_base_SameBytes)]
theorem law20_works_eq  (K : PkTs law20_works_rs → Prop) : law20_works_q  (fun r0 => K (r0, ())) = PCode Try.prog tab_law20_works plan_law20_works (bodyOf Try.f14) (parS law20_works_ps (())) (PRet Try.prog Try.f14.results.toList fun a st => outP law20_works_rs st a K) := by kernel_rfl
theorem law20_works_fq : FnQ Try.prog f_law20_works law20_works_ps law20_works_rs (fun x K => law20_works_q  (fun r0 => K (r0, ()))) := (fnQ_of k_law20_works (tab := tab_law20_works) ⟨ct_attr_Put_ok, ct_base_SameBytes_ok, trivial⟩ rfl).mono fun x K h => Eq.mp (law20_works_eq  K) h
noncomputable def ct_law20_works : Ct := ctBor law20_works_ps law20_works_rs (fun x K => law20_works_q  (fun r0 => K (r0, ())))
theorem ct_law20_works_ok : SoundCt Try.prog f_law20_works ct_law20_works := ctBor_sound law20_works_fq
def plan_law20_AttrPuts : PPlan := ⟨[(4, [0, 3, 1, 2, 4, 5, 6, 7, 8, 9, 10, 11, 12, 13, 14, 15, 16, 17, 18, 19], [27])], [], [], []⟩
theorem k_law20_AttrPuts : Known Try.prog f_law20_AttrPuts Try.f3 plan_law20_AttrPuts.plan (bodyOf Try.f3) := ⟨Try.func3, by kernel_rfl, by kernel_rfl, by kernel_rfl, by kernel_rfl, by kernel_rfl⟩
abbrev law20_AttrPuts_ps : List Pk := [Pk.agg [Kd.int .i64, Kd.lst [Kd.bool, Kd.lst [Kd.int .u32]], Kd.int .u32, Kd.bool, Kd.int .u32, Kd.bool, Kd.int .u32, Kd.bool, Kd.bool, Kd.int .u32, Kd.int .u32, Kd.lst [Kd.int .u32], Kd.lst [Kd.int .i64, Kd.lst [Kd.int .u8]]], Pk.bool]
abbrev law20_AttrPuts_rs : List Pk := [Pk.bool]
def law20_AttrPuts_q (a0 : Int × List (Bool × List UInt32) × UInt32 × Bool × UInt32 × Bool × UInt32 × Bool × Bool × UInt32 × UInt32 × List UInt32 × List (Int × List UInt8)) (four1 : Bool) (K : Bool → Prop) : Prop :=
 (WfPs law20_few_ps (((a0.1, a0.2.1, (ofI .u32 (a0.2.2.1.toNat : Int)), a0.2.2.2.1, (ofI .u32 (a0.2.2.2.2.1.toNat : Int)), a0.2.2.2.2.2.1, (ofI .u32 (a0.2.2.2.2.2.2.1.toNat : Int)), a0.2.2.2.2.2.2.2.1, a0.2.2.2.2.2.2.2.2.1, (ofI .u32 (a0.2.2.2.2.2.2.2.2.2.1.toNat : Int)), (ofI .u32 (a0.2.2.2.2.2.2.2.2.2.2.1.toNat : Int)), a0.2.2.2.2.2.2.2.2.2.2.2.1, a0.2.2.2.2.2.2.2.2.2.2.2.2) : Int × List (Bool × List UInt32) × UInt32 × Bool × UInt32 × Bool × UInt32 × Bool × Bool × UInt32 × UInt32 × List UInt32 × List (Int × List UInt8)), ()) →
 law20_few_q ((a0.1, a0.2.1, (ofI .u32 (a0.2.2.1.toNat : Int)), a0.2.2.2.1, (ofI .u32 (a0.2.2.2.2.1.toNat : Int)), a0.2.2.2.2.2.1, (ofI .u32 (a0.2.2.2.2.2.2.1.toNat : Int)), a0.2.2.2.2.2.2.2.1, a0.2.2.2.2.2.2.2.2.1, (ofI .u32 (a0.2.2.2.2.2.2.2.2.2.1.toNat : Int)), (ofI .u32 (a0.2.2.2.2.2.2.2.2.2.2.1.toNat : Int)), a0.2.2.2.2.2.2.2.2.2.2.2.1, a0.2.2.2.2.2.2.2.2.2.2.2.2) : Int × List (Bool × List UInt32) × UInt32 × Bool × UInt32 × Bool × UInt32 × Bool × Bool × UInt32 × UInt32 × List UInt32 × List (Int × List UInt8)) (fun x10 =>
 WfPs law20_few_rs (x10, ()) →
 (WfPs law20_few_ps (((x10.1, x10.2.1, (ofI .u32 (x10.2.2.1.toNat : Int)), x10.2.2.2.1, (ofI .u32 (x10.2.2.2.2.1.toNat : Int)), x10.2.2.2.2.2.1, (ofI .u32 (x10.2.2.2.2.2.2.1.toNat : Int)), x10.2.2.2.2.2.2.2.1, x10.2.2.2.2.2.2.2.2.1, (ofI .u32 (x10.2.2.2.2.2.2.2.2.2.1.toNat : Int)), (ofI .u32 (x10.2.2.2.2.2.2.2.2.2.2.1.toNat : Int)), x10.2.2.2.2.2.2.2.2.2.2.2.1, x10.2.2.2.2.2.2.2.2.2.2.2.2) : Int × List (Bool × List UInt32) × UInt32 × Bool × UInt32 × Bool × UInt32 × Bool × Bool × UInt32 × UInt32 × List UInt32 × List (Int × List UInt8)), ()) →
 law20_few_q ((x10.1, x10.2.1, (ofI .u32 (x10.2.2.1.toNat : Int)), x10.2.2.2.1, (ofI .u32 (x10.2.2.2.2.1.toNat : Int)), x10.2.2.2.2.2.1, (ofI .u32 (x10.2.2.2.2.2.2.1.toNat : Int)), x10.2.2.2.2.2.2.2.1, x10.2.2.2.2.2.2.2.2.1, (ofI .u32 (x10.2.2.2.2.2.2.2.2.2.1.toNat : Int)), (ofI .u32 (x10.2.2.2.2.2.2.2.2.2.2.1.toNat : Int)), x10.2.2.2.2.2.2.2.2.2.2.2.1, x10.2.2.2.2.2.2.2.2.2.2.2.2) : Int × List (Bool × List UInt32) × UInt32 × Bool × UInt32 × Bool × UInt32 × Bool × Bool × UInt32 × UInt32 × List UInt32 × List (Int × List UInt8)) (fun x13 =>
 WfPs law20_few_rs (x13, ()) →
 (WfPs attr_Put_ps (((x13.1, x13.2.1, (ofI .u32 (x13.2.2.1.toNat : Int)), x13.2.2.2.1, (ofI .u32 (x13.2.2.2.2.1.toNat : Int)), x13.2.2.2.2.2.1, (ofI .u32 (x13.2.2.2.2.2.2.1.toNat : Int)), x13.2.2.2.2.2.2.2.1, x13.2.2.2.2.2.2.2.2.1, (ofI .u32 (x13.2.2.2.2.2.2.2.2.2.1.toNat : Int)), (ofI .u32 (x13.2.2.2.2.2.2.2.2.2.2.1.toNat : Int)), x13.2.2.2.2.2.2.2.2.2.2.2.1, x13.2.2.2.2.2.2.2.2.2.2.2.2) : Int × List (Bool × List UInt32) × UInt32 × Bool × UInt32 × Bool × UInt32 × Bool × Bool × UInt32 × UInt32 × List UInt32 × List (Int × List UInt8)), four1, ()) →
 attr_Put_q ((x13.1, x13.2.1, (ofI .u32 (x13.2.2.1.toNat : Int)), x13.2.2.2.1, (ofI .u32 (x13.2.2.2.2.1.toNat : Int)), x13.2.2.2.2.2.1, (ofI .u32 (x13.2.2.2.2.2.2.1.toNat : Int)), x13.2.2.2.2.2.2.2.1, x13.2.2.2.2.2.2.2.2.1, (ofI .u32 (x13.2.2.2.2.2.2.2.2.2.1.toNat : Int)), (ofI .u32 (x13.2.2.2.2.2.2.2.2.2.2.1.toNat : Int)), x13.2.2.2.2.2.2.2.2.2.2.2.1, x13.2.2.2.2.2.2.2.2.2.2.2.2) : Int × List (Bool × List UInt32) × UInt32 × Bool × UInt32 × Bool × UInt32 × Bool × Bool × UInt32 × UInt32 × List UInt32 × List (Int × List UInt8)) four1 (fun x15r0 x15r1 =>
 WfPs attr_Put_rs (x15r0, x15r1, ()) →
 (WfPs ref20_Put_ps (((x10.1, x10.2.1, (ofI .u32 (x10.2.2.1.toNat : Int)), x10.2.2.2.1, (ofI .u32 (x10.2.2.2.2.1.toNat : Int)), x10.2.2.2.2.2.1, (ofI .u32 (x10.2.2.2.2.2.2.1.toNat : Int)), x10.2.2.2.2.2.2.2.1, x10.2.2.2.2.2.2.2.2.1, (ofI .u32 (x10.2.2.2.2.2.2.2.2.2.1.toNat : Int)), (ofI .u32 (x10.2.2.2.2.2.2.2.2.2.2.1.toNat : Int)), x10.2.2.2.2.2.2.2.2.2.2.2.1, x10.2.2.2.2.2.2.2.2.2.2.2.2) : Int × List (Bool × List UInt32) × UInt32 × Bool × UInt32 × Bool × UInt32 × Bool × Bool × UInt32 × UInt32 × List UInt32 × List (Int × List UInt8)), four1, ()) →
 ref20_Put_q ((x10.1, x10.2.1, (ofI .u32 (x10.2.2.1.toNat : Int)), x10.2.2.2.1, (ofI .u32 (x10.2.2.2.2.1.toNat : Int)), x10.2.2.2.2.2.1, (ofI .u32 (x10.2.2.2.2.2.2.1.toNat : Int)), x10.2.2.2.2.2.2.2.1, x10.2.2.2.2.2.2.2.2.1, (ofI .u32 (x10.2.2.2.2.2.2.2.2.2.1.toNat : Int)), (ofI .u32 (x10.2.2.2.2.2.2.2.2.2.2.1.toNat : Int)), x10.2.2.2.2.2.2.2.2.2.2.2.1, x10.2.2.2.2.2.2.2.2.2.2.2.2) : Int × List (Bool × List UInt32) × UInt32 × Bool × UInt32 × Bool × UInt32 × Bool × Bool × UInt32 × UInt32 × List UInt32 × List (Int × List UInt8)) four1 (fun x21r0 x21r1 =>
 WfPs ref20_Put_rs (x21r0, x21r1, ()) →
 (WfPs law20_few_ps (((x10.1, x10.2.1, (ofI .u32 (x10.2.2.1.toNat : Int)), x10.2.2.2.1, (ofI .u32 (x10.2.2.2.2.1.toNat : Int)), x10.2.2.2.2.2.1, (ofI .u32 (x10.2.2.2.2.2.2.1.toNat : Int)), x10.2.2.2.2.2.2.2.1, x10.2.2.2.2.2.2.2.2.1, (ofI .u32 (x10.2.2.2.2.2.2.2.2.2.1.toNat : Int)), (ofI .u32 (x10.2.2.2.2.2.2.2.2.2.2.1.toNat : Int)), x10.2.2.2.2.2.2.2.2.2.2.2.1, x10.2.2.2.2.2.2.2.2.2.2.2.2) : Int × List (Bool × List UInt32) × UInt32 × Bool × UInt32 × Bool × UInt32 × Bool × Bool × UInt32 × UInt32 × List UInt32 × List (Int × List UInt8)), ()) →
 law20_few_q ((x10.1, x10.2.1, (ofI .u32 (x10.2.2.1.toNat : Int)), x10.2.2.2.1, (ofI .u32 (x10.2.2.2.2.1.toNat : Int)), x10.2.2.2.2.2.1, (ofI .u32 (x10.2.2.2.2.2.2.1.toNat : Int)), x10.2.2.2.2.2.2.2.1, x10.2.2.2.2.2.2.2.2.1, (ofI .u32 (x10.2.2.2.2.2.2.2.2.2.1.toNat : Int)), (ofI .u32 (x10.2.2.2.2.2.2.2.2.2.2.1.toNat : Int)), x10.2.2.2.2.2.2.2.2.2.2.2.1, x10.2.2.2.2.2.2.2.2.2.2.2.2) : Int × List (Bool × List UInt32) × UInt32 × Bool × UInt32 × Bool × UInt32 × Bool × Bool × UInt32 × UInt32 × List UInt32 × List (Int × List UInt8)) (fun x25 =>
 WfPs law20_few_rs (x25, ()) →
 (WfPs attr_Check_ps (((x25.1, x25.2.1, (ofI .u32 (x25.2.2.1.toNat : Int)), x25.2.2.2.1, (ofI .u32 (x25.2.2.2.2.1.toNat : Int)), x25.2.2.2.2.2.1, (ofI .u32 (x25.2.2.2.2.2.2.1.toNat : Int)), x25.2.2.2.2.2.2.2.1, x25.2.2.2.2.2.2.2.2.1, (ofI .u32 (x25.2.2.2.2.2.2.2.2.2.1.toNat : Int)), (ofI .u32 (x25.2.2.2.2.2.2.2.2.2.2.1.toNat : Int)), x25.2.2.2.2.2.2.2.2.2.2.2.1, x25.2.2.2.2.2.2.2.2.2.2.2.2) : Int × List (Bool × List UInt32) × UInt32 × Bool × UInt32 × Bool × UInt32 × Bool × Bool × UInt32 × UInt32 × List UInt32 × List (Int × List UInt8)), ()) →
 attr_Check_q ((x25.1, x25.2.1, (ofI .u32 (x25.2.2.1.toNat : Int)), x25.2.2.2.1, (ofI .u32 (x25.2.2.2.2.1.toNat : Int)), x25.2.2.2.2.2.1, (ofI .u32 (x25.2.2.2.2.2.2.1.toNat : Int)), x25.2.2.2.2.2.2.2.1, x25.2.2.2.2.2.2.2.2.1, (ofI .u32 (x25.2.2.2.2.2.2.2.2.2.1.toNat : Int)), (ofI .u32 (x25.2.2.2.2.2.2.2.2.2.2.1.toNat : Int)), x25.2.2.2.2.2.2.2.2.2.2.2.1, x25.2.2.2.2.2.2.2.2.2.2.2.2) : Int × List (Bool × List UInt32) × UInt32 × Bool × UInt32 × Bool × UInt32 × Bool × Bool × UInt32 × UInt32 × List UInt32 × List (Int × List UInt8)) (fun x26 =>
 WfPs attr_Check_rs (x26, ()) →
 (WfPs ref20_Check_ps (((x10.1, x10.2.1, (ofI .u32 (x10.2.2.1.toNat : Int)), x10.2.2.2.1, (ofI .u32 (x10.2.2.2.2.1.toNat : Int)), x10.2.2.2.2.2.1, (ofI .u32 (x10.2.2.2.2.2.2.1.toNat : Int)), x10.2.2.2.2.2.2.2.1, x10.2.2.2.2.2.2.2.2.1, (ofI .u32 (x10.2.2.2.2.2.2.2.2.2.1.toNat : Int)), (ofI .u32 (x10.2.2.2.2.2.2.2.2.2.2.1.toNat : Int)), x10.2.2.2.2.2.2.2.2.2.2.2.1, x10.2.2.2.2.2.2.2.2.2.2.2.2) : Int × List (Bool × List UInt32) × UInt32 × Bool × UInt32 × Bool × UInt32 × Bool × Bool × UInt32 × UInt32 × List UInt32 × List (Int × List UInt8)), ()) →
 ref20_Check_q ((x10.1, x10.2.1, (ofI .u32 (x10.2.2.1.toNat : Int)), x10.2.2.2.1, (ofI .u32 (x10.2.2.2.2.1.toNat : Int)), x10.2.2.2.2.2.1, (ofI .u32 (x10.2.2.2.2.2.2.1.toNat : Int)), x10.2.2.2.2.2.2.2.1, x10.2.2.2.2.2.2.2.2.1, (ofI .u32 (x10.2.2.2.2.2.2.2.2.2.1.toNat : Int)), (ofI .u32 (x10.2.2.2.2.2.2.2.2.2.2.1.toNat : Int)), x10.2.2.2.2.2.2.2.2.2.2.2.1, x10.2.2.2.2.2.2.2.2.2.2.2.2) : Int × List (Bool × List UInt32) × UInt32 × Bool × UInt32 × Bool × UInt32 × Bool × Bool × UInt32 × UInt32 × List UInt32 × List (Int × List UInt8)) (fun x28 =>
 WfPs ref20_Check_rs (x28, ()) →
 IfB ((x26 : Int) == x28)
 ((WfPs base_SameBytes_ps (x15r0, x21r0, ()) →
 base_SameBytes_q x15r0 x21r0 (fun x33 =>
 WfPs base_SameBytes_rs (x33, ()) →
 IfB x33
 (IfB ((x15r1 : Int) == x21r1)
 ((WfPs law20_works_ps (()) →
 law20_works_q  (fun x41 =>
 WfPs law20_works_rs (x41, ()) →
 K x41)))
 (K false))
 (K false))))
 (K false)))))))))))))))
noncomputable def tab_law20_AttrPuts : List (Nat × Ct) := [(f_law20_few, ct_law20_few), (f_attr_Put, ct_attr_Put), (f_ref20_Put, ct_ref20_Put), (f_attr_Check, ct_attr_Check), (f_ref20_Check, ct_ref20_Check), (f_base_SameBytes, ct_base_SameBytes), (f_law20_works, ct_law20_works)]
theorem law20_AttrPuts_eq (a0 : Int × List (Bool × List UInt32) × UInt32 × Bool × UInt32 × Bool × UInt32 × Bool × Bool × UInt32 × UInt32 × List UInt32 × List (Int × List UInt8)) (four1 : Bool) (K : PkTs law20_AttrPuts_rs → Prop) : law20_AttrPuts_q a0 four1 (fun r0 => K (r0, ())) = PCode Try.prog tab_law20_AttrPuts plan_law20_AttrPuts (bodyOf Try.f3) (parS law20_AttrPuts_ps (a0, four1, ())) (PRet Try.prog Try.f3.results.toList fun a st => outP law20_AttrPuts_rs st a K) := by kernel_rfl
theorem law20_AttrPuts_fq : FnQ Try.prog f_law20_AttrPuts law20_AttrPuts_ps law20_AttrPuts_rs (fun x K => law20_AttrPuts_q x.1 x.2.1 (fun r0 => K (r0, ()))) := (fnQ_of k_law20_AttrPuts (tab := tab_law20_AttrPuts) ⟨ct_law20_few_ok, ct_attr_Put_ok, ct_ref20_Put_ok, ct_attr_Check_ok, ct_ref20_Check_ok, ct_base_SameBytes_ok, ct_law20_works_ok, trivial⟩ rfl).mono fun x K h => Eq.mp (law20_AttrPuts_eq x.1 x.2.1 K) h
noncomputable def ct_law20_AttrPuts : Ct := ctBor law20_AttrPuts_ps law20_AttrPuts_rs (fun x K => law20_AttrPuts_q x.1 x.2.1 (fun r0 => K (r0, ())))
theorem ct_law20_AttrPuts_ok : SoundCt Try.prog f_law20_AttrPuts ct_law20_AttrPuts := ctBor_sound law20_AttrPuts_fq
end Go.Proofs.Ytinilfhnplfhoaa
