/-
  EACH FUNCTION OVER PLAIN DATA: printed by a program of ours over this translation.
-/
import Derived.Test.YtboagabgpcghcaaDoorNum
import Derived.Test.YtboagabgpcghcaaDoorBI
set_option linter.all false
set_option maxRecDepth 100000
set_option maxHeartbeats 4000000
namespace Go.Proofs.YtboagabgpcghcaaDoor
open Go.Sh
abbrev Ty1 := Int × List (Bool × List UInt32) × UInt32 × Bool × UInt32 × Bool × UInt32 × Bool × Bool × UInt32 × UInt32 × List UInt32 × List (Int × List UInt8)
abbrev ks_int_u32 : List Kd := [Kd.int .u32]
abbrev ks_bool_lst_int_u32 : List Kd := [Kd.bool, Kd.lst [Kd.int .u32]]
abbrev ks_int_i64_lst_int_u8 : List Kd := [Kd.int .i64, Kd.lst [Kd.int .u8]]
abbrev ks_lst_int_u8 : List Kd := [Kd.lst [Kd.int .u8]]
abbrev ks_int_u8 : List Kd := [Kd.int .u8]
abbrev ks_lst_int_u32 : List Kd := [Kd.lst [Kd.int .u32]]
def pl_zz27_2 : PLoop := ⟨[(8, PK.int .i64)], [0, 1, 7], []⟩
def plan_zz27 : PPlan := ⟨[], [(2, pl_zz27_2)], [], [], [], []⟩
theorem k_zz27 : Known Tryd.prog f_zz27 Tryd.f97 plan_zz27.plan (bodyOf Tryd.f97) := by refine ⟨Tryd.func97, ?_, ?_, ?_, ?_, ?_⟩ <;> kernel_rfl
abbrev zz27_ps : List Pk := [Pk.lst [Kd.int .u32], Pk.int .u32]
abbrev zz27_rs : List Pk := [Pk.int .i64]
def zz27_l2 (s0 : List UInt32) (v1 : Int) (x8 : Int) (next2 : (Int × Unit) -> Prop) (K : Int -> Prop) : Prop :=
 IfB (decide ((x8 : Int) < (s0.length : Int)))
 ((0 : Int) <= x8 ∧ AtN s0 x8.toNat fun x14 =>
 WfT ks_int_u32 x14 →
 IfB ((v1 : Int) == (x14.toNat : Int))
 (K x8)
 (next2 ((IntKind.wrap .i64 (x8 + 1)), ())))
 (K (-1))
def zz27_q (s0 : List UInt32) (v1 : Int) (K : Int -> Prop) : Prop :=
 LoopJ (Int × Unit) ((0 : Int), ()) fun y next =>
 WfY pl_zz27_2.kinds y →
 zz27_l2 s0 v1 y.1 next K
noncomputable def tab_zz27 : Tab := ⟨[], []⟩
abbrev zz27_L (x : PkTs zz27_ps) (K : PkTs zz27_rs -> Prop) : Prop := zz27_q x.1 x.2.1 (fun r0 => K (r0, ()))
theorem zz27_eq : zz27_L = fun x K => PCode Tryd.prog tab_zz27 plan_zz27 (bodyOf Tryd.f97) (parS zz27_ps x) (PRet Tryd.prog Tryd.f97.results.toList fun a st => outP zz27_rs st a K) := by kernel_rfl
theorem zz27_fq : FnQ Tryd.prog f_zz27 zz27_ps zz27_rs zz27_L := (fnQ_of k_zz27 (tab := tab_zz27) ⟨trivial, trivial⟩ rfl).of_eq zz27_eq
noncomputable def ct_zz27 : Ct := ctRd zz27_ps zz27_rs zz27_L
theorem ct_zz27_ok : SoundCt Tryd.prog f_zz27 ct_zz27 := ctRd_sound zz27_fq
def plan_zz42 : PPlan := ⟨[], [], [], [], [], []⟩
theorem k_zz42 : Known Tryd.prog f_zz42 Tryd.f89 plan_zz42.plan (bodyOf Tryd.f89) := by refine ⟨Tryd.func89, ?_, ?_, ?_, ?_, ?_⟩ <;> kernel_rfl
abbrev zz42_ps : List Pk := [Pk.lst [Kd.int .u32], Pk.int .u32]
abbrev zz42_rs : List Pk := [Pk.bool]
def zz42_q (s0 : List UInt32) (v1 : Int) (K : Bool -> Prop) : Prop :=
 (WfPs zz27_ps (s0, v1, ()) →
 zz27_q s0 v1 (fun x7 =>
 WfPs zz27_rs (x7, ()) →
 K (decide ((x7 : Int) ≥ 0))))
noncomputable def tab_zz42 : Tab := ⟨[(f_zz27, ct_zz27)], []⟩
abbrev zz42_L (x : PkTs zz42_ps) (K : PkTs zz42_rs -> Prop) : Prop := zz42_q x.1 x.2.1 (fun r0 => K (r0, ()))
theorem zz42_eq : zz42_L = fun x K => PCode Tryd.prog tab_zz42 plan_zz42 (bodyOf Tryd.f89) (parS zz42_ps x) (PRet Tryd.prog Tryd.f89.results.toList fun a st => outP zz42_rs st a K) := by kernel_rfl
theorem zz42_fq : FnQ Tryd.prog f_zz42 zz42_ps zz42_rs zz42_L := (fnQ_of k_zz42 (tab := tab_zz42) ⟨⟨ct_zz27_ok, trivial⟩, trivial⟩ rfl).of_eq zz42_eq
noncomputable def ct_zz42 : Ct := ctRd zz42_ps zz42_rs zz42_L
theorem ct_zz42_ok : SoundCt Tryd.prog f_zz42 ct_zz42 := ctRd_sound zz42_fq
def plan_zz38 : PPlan := ⟨[], [], [], [], [], []⟩
theorem k_zz38 : Known Tryd.prog f_zz38 Tryd.f74 plan_zz38.plan (bodyOf Tryd.f74) := by refine ⟨Tryd.func74, ?_, ?_, ?_, ?_, ?_⟩ <;> kernel_rfl
abbrev zz38_ps : List Pk := [Pk.agg [Kd.bool, Kd.lst [Kd.int .u32]]]
abbrev zz38_rs : List Pk := [Pk.bool]
def zz38_q (s0 : Bool × List UInt32) (K : Bool -> Prop) : Prop :=
 IfB (decide (((s0.2.length : Int) : Int) > 0))
 (IfB (decide (((s0.2.length : Int) : Int) <= 255))
 ((WfPs zz42_ps (s0.2, (0 : Int), ()) →
 zz42_q s0.2 (0 : Int) (fun x16 =>
 WfPs zz42_rs (x16, ()) →
 K (!x16))))
 (K false))
 (K false)
noncomputable def tab_zz38 : Tab := ⟨[(f_zz42, ct_zz42)], []⟩
abbrev zz38_L (x : PkTs zz38_ps) (K : PkTs zz38_rs -> Prop) : Prop := zz38_q x.1 (fun r0 => K (r0, ()))
theorem zz38_eq : zz38_L = fun x K => PCode Tryd.prog tab_zz38 plan_zz38 (bodyOf Tryd.f74) (parS zz38_ps x) (PRet Tryd.prog Tryd.f74.results.toList fun a st => outP zz38_rs st a K) := by kernel_rfl
theorem zz38_fq : FnQ Tryd.prog f_zz38 zz38_ps zz38_rs zz38_L := (fnQ_of k_zz38 (tab := tab_zz38) ⟨⟨ct_zz42_ok, trivial⟩, trivial⟩ rfl).of_eq zz38_eq
noncomputable def ct_zz38 : Ct := ctRd zz38_ps zz38_rs zz38_L
theorem ct_zz38_ok : SoundCt Tryd.prog f_zz38 ct_zz38 := ctRd_sound zz38_fq
def pl_zz25_3 : PLoop := ⟨[(3, PK.int .i64), (8, PK.int .i64)], [6, 7], []⟩
def plan_zz25 : PPlan := ⟨[], [(3, pl_zz25_3)], [], [], [], []⟩
theorem k_zz25 : Known Tryd.prog f_zz25 Tryd.f75 plan_zz25.plan (bodyOf Tryd.f75) := by refine ⟨Tryd.func75, ?_, ?_, ?_, ?_, ?_⟩ <;> kernel_rfl
abbrev zz25_ps : List Pk := [Pk.lst [Kd.bool, Kd.lst [Kd.int .u32]]]
abbrev zz25_rs : List Pk := [Pk.int .i64]
def zz25_l3 (p0 : List (Bool × List UInt32)) (n3 : Int) (x8 : Int) (next3 : (Int × Int × Unit) -> Prop) (K : Int -> Prop) : Prop :=
 IfB (decide ((x8 : Int) < (p0.length : Int)))
 ((0 : Int) <= x8 ∧ AtN p0 x8.toNat fun x10 =>
 WfT ks_bool_lst_int_u32 x10 →
 next3 ((IntKind.wrap .i64 (n3 + (x10.2.length : Int))), (IntKind.wrap .i64 (x8 + 1)), ()))
 (K n3)
def zz25_q (p0 : List (Bool × List UInt32)) (K : Int -> Prop) : Prop :=
 LoopJ (Int × Int × Unit) ((0 : Int), (0 : Int), ()) fun y next =>
 WfY pl_zz25_3.kinds y →
 zz25_l3 p0 y.1 y.2.1 next K
noncomputable def tab_zz25 : Tab := ⟨[], []⟩
abbrev zz25_L (x : PkTs zz25_ps) (K : PkTs zz25_rs -> Prop) : Prop := zz25_q x.1 (fun r0 => K (r0, ()))
theorem zz25_eq : zz25_L = fun x K => PCode Tryd.prog tab_zz25 plan_zz25 (bodyOf Tryd.f75) (parS zz25_ps x) (PRet Tryd.prog Tryd.f75.results.toList fun a st => outP zz25_rs st a K) := by kernel_rfl
theorem zz25_fq : FnQ Tryd.prog f_zz25 zz25_ps zz25_rs zz25_L := (fnQ_of k_zz25 (tab := tab_zz25) ⟨trivial, trivial⟩ rfl).of_eq zz25_eq
noncomputable def ct_zz25 : Ct := ctRd zz25_ps zz25_rs zz25_L
theorem ct_zz25_ok : SoundCt Tryd.prog f_zz25 ct_zz25 := ctRd_sound zz25_fq
def pl_zz8_2 : PLoop := ⟨[(7, PK.int .i64)], [0, 5, 6], []⟩
def plan_zz8 : PPlan := ⟨[], [(2, pl_zz8_2)], [], [], [], []⟩
theorem k_zz8 : Known Tryd.prog f_zz8 Tryd.f51 plan_zz8.plan (bodyOf Tryd.f51) := by refine ⟨Tryd.func51, ?_, ?_, ?_, ?_, ?_⟩ <;> kernel_rfl
abbrev zz8_ps : List Pk := [Pk.lst [Kd.bool, Kd.lst [Kd.int .u32]]]
abbrev zz8_rs : List Pk := [Pk.int .i64]
def zz8_l2 (p0 : List (Bool × List UInt32)) (x7 : Int) (next2 : (Int × Unit) -> Prop) (K : Int -> Prop) : Prop :=
 IfB (decide ((x7 : Int) < (p0.length : Int)))
 ((0 : Int) <= x7 ∧ AtN p0 x7.toNat fun x9 =>
 WfT ks_bool_lst_int_u32 x9 →
 (WfPs zz38_ps (x9, ()) →
 zz38_q x9 (fun x12 =>
 WfPs zz38_rs (x12, ()) →
 IfB (!x12)
 (K 2)
 (next2 ((IntKind.wrap .i64 (x7 + 1)), ())))))
 ((WfPs zz25_ps (p0, ()) →
 zz25_q p0 (fun x16 =>
 WfPs zz25_rs (x16, ()) →
 IfB (decide ((x16 : Int) > 64))
 (K 2)
 (K 0))))
def zz8_q (p0 : List (Bool × List UInt32)) (K : Int -> Prop) : Prop :=
 LoopJ (Int × Unit) ((0 : Int), ()) fun y next =>
 WfY pl_zz8_2.kinds y →
 zz8_l2 p0 y.1 next K
noncomputable def tab_zz8 : Tab := ⟨[(f_zz38, ct_zz38), (f_zz25, ct_zz25)], []⟩
abbrev zz8_L (x : PkTs zz8_ps) (K : PkTs zz8_rs -> Prop) : Prop := zz8_q x.1 (fun r0 => K (r0, ()))
theorem zz8_eq : zz8_L = fun x K => PCode Tryd.prog tab_zz8 plan_zz8 (bodyOf Tryd.f51) (parS zz8_ps x) (PRet Tryd.prog Tryd.f51.results.toList fun a st => outP zz8_rs st a K) := by kernel_rfl
theorem zz8_fq : FnQ Tryd.prog f_zz8 zz8_ps zz8_rs zz8_L := (fnQ_of k_zz8 (tab := tab_zz8) ⟨⟨ct_zz38_ok, ct_zz25_ok, trivial⟩, trivial⟩ rfl).of_eq zz8_eq
noncomputable def ct_zz8 : Ct := ctRd zz8_ps zz8_rs zz8_L
theorem ct_zz8_ok : SoundCt Tryd.prog f_zz8 ct_zz8 := ctRd_sound zz8_fq
def plan_zz30 : PPlan := ⟨[], [], [], [], [], []⟩
theorem k_zz30 : Known Tryd.prog f_zz30 Tryd.f53 plan_zz30.plan (bodyOf Tryd.f53) := by refine ⟨Tryd.func53, ?_, ?_, ?_, ?_, ?_⟩ <;> kernel_rfl
abbrev zz30_ps : List Pk := [Pk.int .u32]
abbrev zz30_rs : List Pk := [Pk.bool]
def zz30_q (a0 : Int) (K : Bool -> Prop) : Prop :=
 IfB ((a0 : Int) != 0)
 (K (decide ((a0 : Int) < 3758096384)))
 (K false)
noncomputable def tab_zz30 : Tab := ⟨[], []⟩
abbrev zz30_L (x : PkTs zz30_ps) (K : PkTs zz30_rs -> Prop) : Prop := zz30_q x.1 (fun r0 => K (r0, ()))
theorem zz30_eq : zz30_L = fun x K => PCode Tryd.prog tab_zz30 plan_zz30 (bodyOf Tryd.f53) (parS zz30_ps x) (PRet Tryd.prog Tryd.f53.results.toList fun a st => outP zz30_rs st a K) := by kernel_rfl
theorem zz30_fq : FnQ Tryd.prog f_zz30 zz30_ps zz30_rs zz30_L := (fnQ_of k_zz30 (tab := tab_zz30) ⟨trivial, trivial⟩ rfl).of_eq zz30_eq
noncomputable def ct_zz30 : Ct := ctRd zz30_ps zz30_rs zz30_L
theorem ct_zz30_ok : SoundCt Tryd.prog f_zz30 ct_zz30 := ctRd_sound zz30_fq
def plan_zz5 : PPlan := ⟨[], [], [], [], [], []⟩
theorem k_zz5 : Known Tryd.prog f_zz5 Tryd.f45 plan_zz5.plan (bodyOf Tryd.f45) := by refine ⟨Tryd.func45, ?_, ?_, ?_, ?_, ?_⟩ <;> kernel_rfl
abbrev zz5_ps : List Pk := [Pk.int .i64]
abbrev zz5_rs : List Pk := [Pk.int .u8, Pk.bool]
def zz5_j2 (j0 : Bool) (K : Int -> Bool -> Prop) : Prop :=
 IfB j0
 (K 192 true)
 (K 0 false)
def zz5_j1 (kind0 : Int) (K : Int -> Bool -> Prop) : Prop :=
 IfB ((kind0 : Int) == 4)
 (K 128 true)
 (IfB ((kind0 : Int) == 7)
 (zz5_j2 ((kind0 : Int) == 7) K)
 (IfB ((kind0 : Int) == 8)
 (zz5_j2 ((kind0 : Int) == 8) K)
 (IfB ((kind0 : Int) == 17)
 (zz5_j2 ((kind0 : Int) == 17) K)
 (zz5_j2 ((kind0 : Int) == 18) K))))
def zz5_j0 (kind0 : Int) (j1 : Bool) (K : Int -> Bool -> Prop) : Prop :=
 IfB j1
 (K 64 true)
 (zz5_j1 kind0 K)
def zz5_q (kind0 : Int) (K : Int -> Bool -> Prop) : Prop :=
 IfB ((kind0 : Int) == 1)
 (zz5_j0 kind0 ((kind0 : Int) == 1) K)
 (IfB ((kind0 : Int) == 2)
 (zz5_j0 kind0 ((kind0 : Int) == 2) K)
 (IfB ((kind0 : Int) == 3)
 (zz5_j0 kind0 ((kind0 : Int) == 3) K)
 (IfB ((kind0 : Int) == 5)
 (zz5_j0 kind0 ((kind0 : Int) == 5) K)
 (zz5_j0 kind0 ((kind0 : Int) == 6) K))))
noncomputable def tab_zz5 : Tab := ⟨[], []⟩
abbrev zz5_L (x : PkTs zz5_ps) (K : PkTs zz5_rs -> Prop) : Prop := zz5_q x.1 (fun r0 r1 => K (r0, r1, ()))
theorem zz5_eq : zz5_L = fun x K => PCode Tryd.prog tab_zz5 plan_zz5 (bodyOf Tryd.f45) (parS zz5_ps x) (PRet Tryd.prog Tryd.f45.results.toList fun a st => outP zz5_rs st a K) := by kernel_rfl
theorem zz5_fq : FnQ Tryd.prog f_zz5 zz5_ps zz5_rs zz5_L := (fnQ_of k_zz5 (tab := tab_zz5) ⟨trivial, trivial⟩ rfl).of_eq zz5_eq
noncomputable def ct_zz5 : Ct := ctRd zz5_ps zz5_rs zz5_L
theorem ct_zz5_ok : SoundCt Tryd.prog f_zz5 ct_zz5 := ctRd_sound zz5_fq
def pl_zz20_3 : PLoop := ⟨[(3, PK.int .i64), (10, PK.int .i64)], [0, 8, 9], []⟩
def plan_zz20 : PPlan := ⟨[], [(3, pl_zz20_3)], [], [], [], []⟩
theorem k_zz20 : Known Tryd.prog f_zz20 Tryd.f54 plan_zz20.plan (bodyOf Tryd.f54) := by refine ⟨Tryd.func54, ?_, ?_, ?_, ?_, ?_⟩ <;> kernel_rfl
abbrev zz20_ps : List Pk := [Pk.lst [Kd.int .i64, Kd.lst [Kd.int .u8]]]
abbrev zz20_rs : List Pk := [Pk.bool]
def zz20_j0 (l0 : List (Int × List UInt8)) (x12 : Int × List UInt8) (x10 : Int) (next3 : (Int × Int × Unit) -> Prop) (j6 : Bool) (K : Bool -> Prop) : Prop :=
 IfB j6
 (K false)
 (next3 (x12.1, (IntKind.wrap .i64 (x10 + 1)), ()))
def zz20_l3 (l0 : List (Int × List UInt8)) (last3 : Int) (x10 : Int) (next3 : (Int × Int × Unit) -> Prop) (K : Bool -> Prop) : Prop :=
 IfB (decide ((x10 : Int) < (l0.length : Int)))
 ((0 : Int) <= x10 ∧ AtN l0 x10.toNat fun x12 =>
 WfT ks_int_i64_lst_int_u8 x12 →
 (WfPs zz5_ps (x12.1, ()) →
 zz5_q x12.1 (fun x17r0 x17r1 =>
 WfPs zz5_rs (x17r0, x17r1, ()) →
 IfB x17r1
 (zz20_j0 l0 x12 x10 next3 true K)
 (IfB (decide ((x12.1 : Int) <= last3))
 (zz20_j0 l0 x12 x10 next3 true K)
 (IfB (decide ((x12.1 : Int) > 255))
 (zz20_j0 l0 x12 x10 next3 true K)
 (zz20_j0 l0 x12 x10 next3 (decide (((x12.2.length : Int) : Int) > 255)) K))))))
 (K (decide (((l0.length : Int) : Int) <= 8)))
def zz20_q (l0 : List (Int × List UInt8)) (K : Bool -> Prop) : Prop :=
 LoopJ (Int × Int × Unit) (((-1) : Int), (0 : Int), ()) fun y next =>
 WfY pl_zz20_3.kinds y →
 zz20_l3 l0 y.1 y.2.1 next K
noncomputable def tab_zz20 : Tab := ⟨[(f_zz5, ct_zz5)], []⟩
abbrev zz20_L (x : PkTs zz20_ps) (K : PkTs zz20_rs -> Prop) : Prop := zz20_q x.1 (fun r0 => K (r0, ()))
theorem zz20_eq : zz20_L = fun x K => PCode Tryd.prog tab_zz20 plan_zz20 (bodyOf Tryd.f54) (parS zz20_ps x) (PRet Tryd.prog Tryd.f54.results.toList fun a st => outP zz20_rs st a K) := by kernel_rfl
theorem zz20_fq : FnQ Tryd.prog f_zz20 zz20_ps zz20_rs zz20_L := (fnQ_of k_zz20 (tab := tab_zz20) ⟨⟨ct_zz5_ok, trivial⟩, trivial⟩ rfl).of_eq zz20_eq
noncomputable def ct_zz20 : Ct := ctRd zz20_ps zz20_rs zz20_L
theorem ct_zz20_ok : SoundCt Tryd.prog f_zz20 ct_zz20 := ctRd_sound zz20_fq
def plan_zz14 : PPlan := ⟨[], [], [], [], [], []⟩
theorem k_zz14 : Known Tryd.prog f_zz14 Tryd.f33 plan_zz14.plan (bodyOf Tryd.f33) := by refine ⟨Tryd.func33, ?_, ?_, ?_, ?_, ?_⟩ <;> kernel_rfl
abbrev zz14_ps : List Pk := [Pk.agg [Kd.int .i64, Kd.lst [Kd.bool, Kd.lst [Kd.int .u32]], Kd.int .u32, Kd.bool, Kd.int .u32, Kd.bool, Kd.int .u32, Kd.bool, Kd.bool, Kd.int .u32, Kd.int .u32, Kd.lst [Kd.int .u32], Kd.lst [Kd.int .i64, Kd.lst [Kd.int .u8]]]]
abbrev zz14_rs : List Pk := [Pk.int .i64]
def zz14_j2 (j0 : Bool) (K : Int -> Prop) : Prop :=
 IfB j0
 (K 2)
 (K 0)
def zz14_j1 (a0 : Ty1) (j13_1 : Bool) (K : Int -> Prop) : Prop :=
 IfB j13_1
 (K 2)
 (IfB (decide (((a0.2.2.2.2.2.2.2.2.2.2.2.1.length : Int) : Int) > 32))
 (zz14_j2 true K)
 ((WfPs zz20_ps (a0.2.2.2.2.2.2.2.2.2.2.2.2, ()) →
 zz20_q a0.2.2.2.2.2.2.2.2.2.2.2.2 (fun x40 =>
 WfPs zz20_rs (x40, ()) →
 zz14_j2 (!x40) K))))
def zz14_j0 (a0 : Ty1) (j13 : Bool) (K : Int -> Prop) : Prop :=
 IfB j13
 (K 2)
 ((WfPs zz30_ps ((a0.2.2.1.toNat : Int), ()) →
 zz30_q (a0.2.2.1.toNat : Int) (fun x21 =>
 WfPs zz30_rs (x21, ()) →
 IfB (!x21)
 (zz14_j1 a0 true K)
 (IfB a0.2.2.2.2.2.2.2.2.1
 (zz14_j1 a0 (((a0.2.2.2.2.2.2.2.2.2.1.toNat : Int) : Int) == 0) K)
 (zz14_j1 a0 false K)))))
def zz14_q (a0 : Ty1) (K : Int -> Prop) : Prop :=
 IfB (decide ((a0.1 : Int) < 0))
 (zz14_j0 a0 true K)
 (IfB (decide ((a0.1 : Int) > 2))
 (zz14_j0 a0 true K)
 ((WfPs zz8_ps (a0.2.1, ()) →
 zz8_q a0.2.1 (fun x15 =>
 WfPs zz8_rs (x15, ()) →
 zz14_j0 a0 ((x15 : Int) != 0) K))))
noncomputable def tab_zz14 : Tab := ⟨[(f_zz8, ct_zz8), (f_zz30, ct_zz30), (f_zz20, ct_zz20)], []⟩
abbrev zz14_L (x : PkTs zz14_ps) (K : PkTs zz14_rs -> Prop) : Prop := zz14_q x.1 (fun r0 => K (r0, ()))
theorem zz14_eq : zz14_L = fun x K => PCode Tryd.prog tab_zz14 plan_zz14 (bodyOf Tryd.f33) (parS zz14_ps x) (PRet Tryd.prog Tryd.f33.results.toList fun a st => outP zz14_rs st a K) := by kernel_rfl
theorem zz14_fq : FnQ Tryd.prog f_zz14 zz14_ps zz14_rs zz14_L := (fnQ_of k_zz14 (tab := tab_zz14) ⟨⟨ct_zz8_ok, ct_zz30_ok, ct_zz20_ok, trivial⟩, trivial⟩ rfl).of_eq zz14_eq
noncomputable def ct_zz14 : Ct := ctRd zz14_ps zz14_rs zz14_L
theorem ct_zz14_ok : SoundCt Tryd.prog f_zz14 ct_zz14 := ctRd_sound zz14_fq
def plan_zz39 : PPlan := ⟨[], [], [], [], [], []⟩
theorem k_zz39 : Known Tryd.prog f_zz39 Tryd.f55 plan_zz39.plan (bodyOf Tryd.f55) := by refine ⟨Tryd.func55, ?_, ?_, ?_, ?_, ?_⟩ <;> kernel_rfl
abbrev zz39_ps : List Pk := [Pk.agg [Kd.bool, Kd.lst [Kd.int .u32]]]
abbrev zz39_rs : List Pk := [Pk.int .u8]
def zz39_q (s0 : Bool × List UInt32) (K : Int -> Prop) : Prop :=
 IfB s0.1
 (K 1)
 (K 2)
noncomputable def tab_zz39 : Tab := ⟨[], []⟩
abbrev zz39_L (x : PkTs zz39_ps) (K : PkTs zz39_rs -> Prop) : Prop := zz39_q x.1 (fun r0 => K (r0, ()))
theorem zz39_eq : zz39_L = fun x K => PCode Tryd.prog tab_zz39 plan_zz39 (bodyOf Tryd.f55) (parS zz39_ps x) (PRet Tryd.prog Tryd.f55.results.toList fun a st => outP zz39_rs st a K) := by kernel_rfl
theorem zz39_fq : FnQ Tryd.prog f_zz39 zz39_ps zz39_rs zz39_L := (fnQ_of k_zz39 (tab := tab_zz39) ⟨trivial, trivial⟩ rfl).of_eq zz39_eq
noncomputable def ct_zz39 : Ct := ctRd zz39_ps zz39_rs zz39_L
theorem ct_zz39_ok : SoundCt Tryd.prog f_zz39 ct_zz39 := ctRd_sound zz39_fq
def pl_zz6_6 : PLoop := ⟨[(7, PK.row T_uint8 [Kd.int .u8]), (19, PK.int .i64)], [1, 17, 18], []⟩
def pl_zz6_10 : PLoop := ⟨[(7, PK.row T_uint8 [Kd.int .u8]), (35, PK.int .i64)], [1, 17, 18, 19, 33, 34], []⟩
def plan_zz6 : PPlan := ⟨[(8, [0, 1, 3, 4, 5, 6, 2, 7, 8, 9], [27])], [(6, pl_zz6_6), (10, pl_zz6_10)], [], [], [], []⟩
theorem k_zz6 : Known Tryd.prog f_zz6 Tryd.f34 plan_zz6.plan (bodyOf Tryd.f34) := by refine ⟨Tryd.func34, ?_, ?_, ?_, ?_, ?_⟩ <;> kernel_rfl
abbrev zz6_ps : List Pk := [Pk.lst [Kd.bool, Kd.lst [Kd.int .u32]], Pk.bool]
abbrev zz6_rs : List Pk := [Pk.own T_uint8 [Kd.int .u8], Pk.int .i64]
def zz6_j1 (four1 : Bool) (j1 : List UInt8) (j2 : Int) (p0 : List (Bool × List UInt32)) (x19 : Int) (x21 : Bool × List UInt32) (x35 : Int) (next6 : (List UInt8 × Int × Unit) -> Prop) (next10 : (List UInt8 × Int × Unit) -> Prop) (K : List UInt8 -> Int -> Prop) : Prop :=
 next10 ((j1 ++ ([(ofI .u8 (IntKind.wrap .u8 (Int.fdiv j2 256))), (ofI .u8 (IntKind.wrap .u8 j2))] : List UInt8)), (IntKind.wrap .i64 (x35 + 1)), ())
def zz6_j0 (four1 : Bool) (p0 : List (Bool × List UInt32)) (x19 : Int) (x21 : Bool × List UInt32) (x35 : Int) (next6 : (List UInt8 × Int × Unit) -> Prop) (next10 : (List UInt8 × Int × Unit) -> Prop) (j1 : List UInt8) (j2 : Int) (K : List UInt8 -> Int -> Prop) : Prop :=
 (0 : Int) <= 8 ∧
 j1.length + ([(ofI .u8 (IntKind.wrap .u8 (Int.fdiv j2 256))), (ofI .u8 (IntKind.wrap .u8 j2))] : List UInt8).length <= 140737488355232 ∧
 zz6_j1 four1 j1 j2 p0 x19 x21 x35 next6 next10 K
def zz6_l10 (four1 : Bool) (p0 : List (Bool × List UInt32)) (x19 : Int) (x21 : Bool × List UInt32) (next6 : (List UInt8 × Int × Unit) -> Prop) (b7_1 : List UInt8) (x35 : Int) (next10 : (List UInt8 × Int × Unit) -> Prop) (K : List UInt8 -> Int -> Prop) : Prop :=
 IfB (decide ((x35 : Int) < (x21.2.length : Int)))
 ((0 : Int) <= x35 ∧ AtN x21.2 x35.toNat fun x37 =>
 WfT ks_int_u32 x37 →
 IfB four1
 ((0 : Int) <= 24 ∧
 (0 : Int) <= 16 ∧
 b7_1.length + ([(ofI .u8 (IntKind.wrap .u8 (Int.fdiv (x37.toNat : Int) 16777216))), (ofI .u8 (IntKind.wrap .u8 (Int.fdiv (x37.toNat : Int) 65536)))] : List UInt8).length <= 140737488355232 ∧
 zz6_j0 four1 p0 x19 x21 x35 next6 next10 (b7_1 ++ ([(ofI .u8 (IntKind.wrap .u8 (Int.fdiv (x37.toNat : Int) 16777216))), (ofI .u8 (IntKind.wrap .u8 (Int.fdiv (x37.toNat : Int) 65536)))] : List UInt8)) (x37.toNat : Int) K)
 (IfB (decide (((x37.toNat : Int) : Int) > 65535))
 (zz6_j0 four1 p0 x19 x21 x35 next6 next10 b7_1 23456 K)
 (zz6_j0 four1 p0 x19 x21 x35 next6 next10 b7_1 (x37.toNat : Int) K)))
 (next6 (b7_1, (IntKind.wrap .i64 (x19 + 1)), ()))
def zz6_l6 (four1 : Bool) (p0 : List (Bool × List UInt32)) (b7 : List UInt8) (x19 : Int) (next6 : (List UInt8 × Int × Unit) -> Prop) (K : List UInt8 -> Int -> Prop) : Prop :=
 IfB (decide ((x19 : Int) < (p0.length : Int)))
 ((0 : Int) <= x19 ∧ AtN p0 x19.toNat fun x21 =>
 WfT ks_bool_lst_int_u32 x21 →
 (WfPs zz39_ps (x21, ()) →
 zz39_q x21 (fun x25 =>
 WfPs zz39_rs (x25, ()) →
 b7.length + ([(ofI .u8 x25), (ofI .u8 (IntKind.wrap .u8 (x21.2.length : Int)))] : List UInt8).length <= 140737488355232 ∧
 LoopJ (List UInt8 × Int × Unit) ((b7 ++ ([(ofI .u8 x25), (ofI .u8 (IntKind.wrap .u8 (x21.2.length : Int)))] : List UInt8)), (0 : Int), ()) fun y next =>
 WfY pl_zz6_10.kinds y →
 zz6_l10 four1 p0 x19 x21 next6 y.1 y.2.1 next K)))
 (K b7 0)
def zz6_q (p0 : List (Bool × List UInt32)) (four1 : Bool) (K : List UInt8 -> Int -> Prop) : Prop :=
 (WfPs zz8_ps (p0, ()) →
 zz8_q p0 (fun x13 =>
 WfPs zz8_rs (x13, ()) →
 IfB ((x13 : Int) != 0)
 (K ([] : List UInt8) x13)
 (LoopJ (List UInt8 × Int × Unit) (([] : List UInt8), (0 : Int), ()) fun y next =>
 WfY pl_zz6_6.kinds y →
 zz6_l6 four1 p0 y.1 y.2.1 next K)))
noncomputable def tab_zz6 : Tab := ⟨[(f_zz8, ct_zz8), (f_zz39, ct_zz39)], []⟩
abbrev zz6_L (x : PkTs zz6_ps) (K : PkTs zz6_rs -> Prop) : Prop := zz6_q x.1 x.2.1 (fun r0 r1 => K (r0, r1, ()))
theorem zz6_eq : zz6_L = fun x K => PCode Tryd.prog tab_zz6 plan_zz6 (bodyOf Tryd.f34) (parS zz6_ps x) (PRet Tryd.prog Tryd.f34.results.toList fun a st => outP zz6_rs st a K) := by kernel_rfl
theorem zz6_fq : FnQ Tryd.prog f_zz6 zz6_ps zz6_rs zz6_L := (fnQ_of k_zz6 (tab := tab_zz6) ⟨⟨ct_zz8_ok, ct_zz39_ok, trivial⟩, trivial⟩ rfl).of_eq zz6_eq
noncomputable def ct_zz6 : Ct := ctVal zz6_ps zz6_rs zz6_L
theorem ct_zz6_ok : SoundCt Tryd.prog f_zz6 ct_zz6 := ctVal_sound zz6_fq
def plan_zz43_at_nil : PPlan := ⟨[], [], [25], [], [], []⟩
theorem k_zz43_at_nil : Known Tryd.prog f_zz43 Tryd.f40 plan_zz43_at_nil.plan (bodyOf Tryd.f40) := by refine ⟨Tryd.func40, ?_, ?_, ?_, ?_, ?_⟩ <;> kernel_rfl
abbrev zz43_at_nil_ps : List Pk := [Pk.nil, Pk.int .i64]
abbrev zz43_at_nil_rs : List Pk := [Pk.own T_uint8 [Kd.int .u8]]
def zz43_at_nil_q (n1 : Int) (K : List UInt8 -> Prop) : Prop :=
 IfB (decide ((n1 : Int) < 0))
 (False)
 (IfB (decide (((IntKind.wrap .i64 (n1 - (IntKind.wrap .i64 (0 - 0)))) : Int) > 0))
 ((0 : Int) <= 0 ∧ 0 <= (0 : Int) ∧
 (0 : Int) < (IntKind.wrap .i64 (n1 - (IntKind.wrap .i64 (0 - 0)))) ∧ (IntKind.wrap .i64 (n1 - (IntKind.wrap .i64 (0 - 0)))) <= 1000000000 ∧
 (0 : Int) <= 0 ∧ 0 <= ((List.replicate (IntKind.wrap .i64 (n1 - (IntKind.wrap .i64 (0 - 0)))).toNat ((ofI .u8 0) : UInt8)).length : Int) ∧
 K ((List.replicate (IntKind.wrap .i64 (n1 - (IntKind.wrap .i64 (0 - 0)))).toNat ((ofI .u8 0) : UInt8)).take 0))
 (K ([] : List UInt8)))
noncomputable def tab_zz43_at_nil : Tab := ⟨[], []⟩
abbrev zz43_at_nil_L (x : PkTs zz43_at_nil_ps) (K : PkTs zz43_at_nil_rs -> Prop) : Prop := zz43_at_nil_q x.2.1 (fun r0 => K (r0, ()))
theorem zz43_at_nil_eq : zz43_at_nil_L = fun x K => PCode Tryd.prog tab_zz43_at_nil plan_zz43_at_nil (bodyOf Tryd.f40) (parS zz43_at_nil_ps x) (PRet Tryd.prog Tryd.f40.results.toList fun a st => outP zz43_at_nil_rs st a K) := by kernel_rfl
theorem zz43_at_nil_fq : FnQ Tryd.prog f_zz43 zz43_at_nil_ps zz43_at_nil_rs zz43_at_nil_L := (fnQ_of k_zz43_at_nil (tab := tab_zz43_at_nil) ⟨trivial, trivial⟩ rfl).of_eq zz43_at_nil_eq
noncomputable def ct_zz43_at_nil : Ct := ctVal zz43_at_nil_ps zz43_at_nil_rs zz43_at_nil_L
theorem ct_zz43_at_nil_ok : SoundCt Tryd.prog f_zz43 ct_zz43_at_nil := ctVal_sound zz43_at_nil_fq
def pl_zz10_3 : PLoop := ⟨[(3, PK.int .i64), (11, PK.int .i64)], [0, 9, 10], []⟩
def pl_zz10_11 : PLoop := ⟨[(6, PK.row T_uint8 [Kd.int .u8]), (27, PK.int .i64)], [25, 26], []⟩
def plan_zz10 : PPlan := ⟨[], [(3, pl_zz10_3), (11, pl_zz10_11)], [], [], [], []⟩
theorem k_zz10 : Known Tryd.prog f_zz10 Tryd.f21 plan_zz10.plan (bodyOf Tryd.f21) := by refine ⟨Tryd.func21, ?_, ?_, ?_, ?_, ?_⟩ <;> kernel_rfl
abbrev zz10_ps : List Pk := [Pk.lst [Kd.lst [Kd.int .u8]]]
abbrev zz10_rs : List Pk := [Pk.own T_uint8 [Kd.int .u8]]
def zz10_l11 (slices0 : List (List UInt8)) (newslice6 : List UInt8) (x27 : Int) (next11 : (List UInt8 × Int × Unit) -> Prop) (K : List UInt8 -> Prop) : Prop :=
 IfB (decide ((x27 : Int) < (slices0.length : Int)))
 ((0 : Int) <= x27 ∧ AtN slices0 x27.toNat fun x29 =>
 WfT ks_lst_int_u8 x29 →
 newslice6.length + x29.length <= 140737488355232 ∧
 next11 ((newslice6 ++ x29), (IntKind.wrap .i64 (x27 + 1)), ()))
 (K newslice6)
def zz10_l3 (slices0 : List (List UInt8)) (size3 : Int) (x11 : Int) (next3 : (Int × Int × Unit) -> Prop) (K : List UInt8 -> Prop) : Prop :=
 IfB (decide ((x11 : Int) < (slices0.length : Int)))
 ((0 : Int) <= x11 ∧ AtN slices0 x11.toNat fun x13 =>
 WfT ks_lst_int_u8 x13 →
 IfB (decide (((IntKind.wrap .i64 (size3 + (x13.length : Int))) : Int) < 0))
 (False)
 (next3 ((IntKind.wrap .i64 (size3 + (x13.length : Int))), (IntKind.wrap .i64 (x11 + 1)), ())))
 ((WfPs zz43_at_nil_ps ((), size3, ()) →
 zz43_at_nil_q size3 (fun x24 =>
 WfPs zz43_at_nil_rs (x24, ()) →
 LoopJ (List UInt8 × Int × Unit) (x24, (0 : Int), ()) fun y next =>
 WfY pl_zz10_11.kinds y →
 zz10_l11 slices0 y.1 y.2.1 next K)))
def zz10_q (slices0 : List (List UInt8)) (K : List UInt8 -> Prop) : Prop :=
 LoopJ (Int × Int × Unit) ((0 : Int), (0 : Int), ()) fun y next =>
 WfY pl_zz10_3.kinds y →
 zz10_l3 slices0 y.1 y.2.1 next K
noncomputable def tab_zz10 : Tab := ⟨[(f_zz43, ct_zz43_at_nil)], []⟩
abbrev zz10_L (x : PkTs zz10_ps) (K : PkTs zz10_rs -> Prop) : Prop := zz10_q x.1 (fun r0 => K (r0, ()))
theorem zz10_eq : zz10_L = fun x K => PCode Tryd.prog tab_zz10 plan_zz10 (bodyOf Tryd.f21) (parS zz10_ps x) (PRet Tryd.prog Tryd.f21.results.toList fun a st => outP zz10_rs st a K) := by kernel_rfl
theorem zz10_fq : FnQ Tryd.prog f_zz10 zz10_ps zz10_rs zz10_L := (fnQ_of k_zz10 (tab := tab_zz10) ⟨⟨ct_zz43_at_nil_ok, trivial⟩, trivial⟩ rfl).of_eq zz10_eq
noncomputable def ct_zz10 : Ct := ctVal zz10_ps zz10_rs zz10_L
theorem ct_zz10_ok : SoundCt Tryd.prog f_zz10 ct_zz10 := ctVal_sound zz10_fq
def plan_zz15 : PPlan := ⟨[], [], [], [], [], []⟩
theorem k_zz15 : Known Tryd.prog f_zz15 Tryd.f39 plan_zz15.plan (bodyOf Tryd.f39) := by refine ⟨Tryd.func39, ?_, ?_, ?_, ?_, ?_⟩ <;> kernel_rfl
abbrev zz15_ps : List Pk := [Pk.int .u8, Pk.int .i64, Pk.lst [Kd.lst [Kd.int .u8]]]
abbrev zz15_rs : List Pk := []
abbrev zz15_os : List PK := [PK.row T_uint8 [Kd.int .u8]]
def zz15_j0 (x11 : List UInt8) (j0 : List UInt8) (K : List UInt8 -> Prop) : Prop :=
 j0.length + x11.length <= 140737488355232 ∧
 K (j0 ++ x11)
def zz15_q (c0 : List UInt8) (flags1 : Int) (kind2 : Int) (parts3 : List (List UInt8)) (K : List UInt8 -> Prop) : Prop :=
 (WfPs zz10_ps (parts3, ()) →
 zz10_q parts3 (fun x11 =>
 WfPs zz10_rs (x11, ()) →
 IfB (decide (((x11.length : Int) : Int) > 255))
 ((0 : Int) <= 8 ∧
 c0.length + ([(ofI .u8 (bitsOr .u8 flags1 16)), (ofI .u8 (IntKind.wrap .u8 kind2)), (ofI .u8 (IntKind.wrap .u8 (Int.fdiv (x11.length : Int) 256))), (ofI .u8 (IntKind.wrap .u8 (x11.length : Int)))] : List UInt8).length <= 140737488355232 ∧
 zz15_j0 x11 (c0 ++ ([(ofI .u8 (bitsOr .u8 flags1 16)), (ofI .u8 (IntKind.wrap .u8 kind2)), (ofI .u8 (IntKind.wrap .u8 (Int.fdiv (x11.length : Int) 256))), (ofI .u8 (IntKind.wrap .u8 (x11.length : Int)))] : List UInt8)) K)
 (c0.length + ([(ofI .u8 flags1), (ofI .u8 (IntKind.wrap .u8 kind2)), (ofI .u8 (IntKind.wrap .u8 (x11.length : Int)))] : List UInt8).length <= 140737488355232 ∧
 zz15_j0 x11 (c0 ++ ([(ofI .u8 flags1), (ofI .u8 (IntKind.wrap .u8 kind2)), (ofI .u8 (IntKind.wrap .u8 (x11.length : Int)))] : List UInt8)) K)))
noncomputable def tab_zz15 : Tab := ⟨[(f_zz10, ct_zz10)], []⟩
theorem zz15_eq : (fun (o : PTup zz15_os) (x : PkTs zz15_ps) (K : PTup zz15_os -> PkTs zz15_rs -> Prop) => zz15_q o.1 x.1 x.2.1 x.2.2.1 (fun o0 => K (o0, ()) (()))) = fun o x K => PCode Tryd.prog tab_zz15 plan_zz15 (bodyOf Tryd.f39) (parO T_attr_writer zz15_os zz15_ps o x) (PRet Tryd.prog Tryd.f39.results.toList fun a st => outO T_attr_writer zz15_os zz15_rs st a K) := by kernel_rfl
theorem zz15_fq : FnO Tryd.prog f_zz15 T_attr_writer zz15_os zz15_ps zz15_rs (fun o x K => zz15_q o.1 x.1 x.2.1 x.2.2.1 (fun o0 => K (o0, ()) (()))) := (fnO_of k_zz15 (tab := tab_zz15) ⟨⟨ct_zz10_ok, trivial⟩, trivial⟩ rfl).of_eq zz15_eq
noncomputable def ct_zz15 : Ct := ctObj T_attr_writer zz15_os zz15_ps zz15_rs (fun o x K => zz15_q o.1 x.1 x.2.1 x.2.2.1 (fun o0 => K (o0, ()) (())))
theorem ct_zz15_ok : SoundCt Tryd.prog f_zz15 ct_zz15 := ctObj_sound zz15_fq
def plan_zz2 : PPlan := ⟨[], [], [], [], [], []⟩
theorem k_zz2 : Known Tryd.prog f_zz2 Tryd.f35 plan_zz2.plan (bodyOf Tryd.f35) := by refine ⟨Tryd.func35, ?_, ?_, ?_, ?_, ?_⟩ <;> kernel_rfl
abbrev zz2_ps : List Pk := [Pk.int .i64, Pk.lst [Kd.lst [Kd.int .u8]]]
abbrev zz2_rs : List Pk := []
abbrev zz2_os : List PK := [PK.row T_uint8 [Kd.int .u8]]
def zz2_q (c0 : List UInt8) (kind1 : Int) (parts2 : List (List UInt8)) (K : List UInt8 -> Prop) : Prop :=
 (WfPs zz5_ps (kind1, ()) →
 zz5_q kind1 (fun x10r0 x10r1 =>
 WfPs zz5_rs (x10r0, x10r1, ()) →
 (WfY zz15_os (c0, ()) →
 WfPs zz15_ps (x10r0, kind1, parts2, ()) →
 zz15_q c0 x10r0 kind1 parts2 (fun ox170 =>
 WfY zz15_os (ox170, ()) →
 WfPs zz15_rs () →
 K ox170))))
noncomputable def tab_zz2 : Tab := ⟨[(f_zz15, ct_zz15), (f_zz5, ct_zz5)], []⟩
theorem zz2_eq : (fun (o : PTup zz2_os) (x : PkTs zz2_ps) (K : PTup zz2_os -> PkTs zz2_rs -> Prop) => zz2_q o.1 x.1 x.2.1 (fun o0 => K (o0, ()) (()))) = fun o x K => PCode Tryd.prog tab_zz2 plan_zz2 (bodyOf Tryd.f35) (parO T_attr_writer zz2_os zz2_ps o x) (PRet Tryd.prog Tryd.f35.results.toList fun a st => outO T_attr_writer zz2_os zz2_rs st a K) := by kernel_rfl
theorem zz2_fq : FnO Tryd.prog f_zz2 T_attr_writer zz2_os zz2_ps zz2_rs (fun o x K => zz2_q o.1 x.1 x.2.1 (fun o0 => K (o0, ()) (()))) := (fnO_of k_zz2 (tab := tab_zz2) ⟨⟨ct_zz15_ok, ct_zz5_ok, trivial⟩, trivial⟩ rfl).of_eq zz2_eq
noncomputable def ct_zz2 : Ct := ctObj T_attr_writer zz2_os zz2_ps zz2_rs (fun o x K => zz2_q o.1 x.1 x.2.1 (fun o0 => K (o0, ()) (())))
theorem ct_zz2_ok : SoundCt Tryd.prog f_zz2 ct_zz2 := ctObj_sound zz2_fq
def plan_zz9 : PPlan := ⟨[], [], [], [], [], []⟩
theorem k_zz9 : Known Tryd.prog f_zz9 Tryd.f36 plan_zz9.plan (bodyOf Tryd.f36) := by refine ⟨Tryd.func36, ?_, ?_, ?_, ?_, ?_⟩ <;> kernel_rfl
abbrev zz9_ps : List Pk := [Pk.int .u32]
abbrev zz9_rs : List Pk := [Pk.own T_uint8 [Kd.int .u8]]
def zz9_q (n0 : Int) (K : List UInt8 -> Prop) : Prop :=
 (0 : Int) <= 24 ∧
 (0 : Int) <= 16 ∧
 (0 : Int) <= 8 ∧
 K ([(ofI .u8 (IntKind.wrap .u8 (Int.fdiv n0 16777216))), (ofI .u8 (IntKind.wrap .u8 (Int.fdiv n0 65536))), (ofI .u8 (IntKind.wrap .u8 (Int.fdiv n0 256))), (ofI .u8 (IntKind.wrap .u8 n0))] : List UInt8)
noncomputable def tab_zz9 : Tab := ⟨[], []⟩
abbrev zz9_L (x : PkTs zz9_ps) (K : PkTs zz9_rs -> Prop) : Prop := zz9_q x.1 (fun r0 => K (r0, ()))
theorem zz9_eq : zz9_L = fun x K => PCode Tryd.prog tab_zz9 plan_zz9 (bodyOf Tryd.f36) (parS zz9_ps x) (PRet Tryd.prog Tryd.f36.results.toList fun a st => outP zz9_rs st a K) := by kernel_rfl
theorem zz9_fq : FnQ Tryd.prog f_zz9 zz9_ps zz9_rs zz9_L := (fnQ_of k_zz9 (tab := tab_zz9) ⟨trivial, trivial⟩ rfl).of_eq zz9_eq
noncomputable def ct_zz9 : Ct := ctVal zz9_ps zz9_rs zz9_L
theorem ct_zz9_ok : SoundCt Tryd.prog f_zz9 ct_zz9 := ctVal_sound zz9_fq
def plan_zz32 : PPlan := ⟨[], [], [], [], [], []⟩
theorem k_zz32 : Known Tryd.prog f_zz32 Tryd.f56 plan_zz32.plan (bodyOf Tryd.f56) := by refine ⟨Tryd.func56, ?_, ?_, ?_, ?_, ?_⟩ <;> kernel_rfl
abbrev zz32_ps : List Pk := [Pk.int .u32, Pk.bool]
abbrev zz32_rs : List Pk := [Pk.lst [Kd.int .u8]]
def zz32_j0 (j0 : Int) (K : List UInt8 -> Prop) : Prop :=
 (WfPs zz9_ps (j0, ()) →
 zz9_q j0 (fun x13 =>
 WfPs zz9_rs (x13, ()) →
 (0 : Int) <= 2 ∧ 2 <= (x13.length : Int) ∧
 K (x13.drop 2)))
def zz32_q (as0 : Int) (four1 : Bool) (K : List UInt8 -> Prop) : Prop :=
 IfB four1
 ((WfPs zz9_ps (as0, ()) →
 zz9_q as0 (fun x8 =>
 WfPs zz9_rs (x8, ()) →
 K x8)))
 (IfB (decide ((as0 : Int) > 65535))
 (zz32_j0 23456 K)
 (zz32_j0 as0 K))
noncomputable def tab_zz32 : Tab := ⟨[(f_zz9, ct_zz9)], []⟩
abbrev zz32_L (x : PkTs zz32_ps) (K : PkTs zz32_rs -> Prop) : Prop := zz32_q x.1 x.2.1 (fun r0 => K (r0, ()))
theorem zz32_eq : zz32_L = fun x K => PCode Tryd.prog tab_zz32 plan_zz32 (bodyOf Tryd.f56) (parS zz32_ps x) (PRet Tryd.prog Tryd.f56.results.toList fun a st => outP zz32_rs st a K) := by kernel_rfl
theorem zz32_fq : FnQ Tryd.prog f_zz32 zz32_ps zz32_rs zz32_L := (fnQ_of k_zz32 (tab := tab_zz32) ⟨⟨ct_zz9_ok, trivial⟩, trivial⟩ rfl).of_eq zz32_eq
noncomputable def ct_zz32 : Ct := ctVal zz32_ps zz32_rs zz32_L
theorem ct_zz32_ok : SoundCt Tryd.prog f_zz32 ct_zz32 := ctVal_sound zz32_fq
def pl_zz7_10 : PLoop := ⟨[(6, PK.row T_sl_uint8 [Kd.lst [Kd.int .u8]]), (40, PK.int .i64)], [0, 38, 39], []⟩
def plan_zz7 : PPlan := ⟨[(6, [0, 1, 2, 3, 5, 6, 4, 7, 8, 9], [29])], [(10, pl_zz7_10)], [], [], [], []⟩
theorem k_zz7 : Known Tryd.prog f_zz7 Tryd.f37 plan_zz7.plan (bodyOf Tryd.f37) := by refine ⟨Tryd.func37, ?_, ?_, ?_, ?_, ?_⟩ <;> kernel_rfl
abbrev zz7_ps : List Pk := [Pk.agg [Kd.int .i64, Kd.lst [Kd.bool, Kd.lst [Kd.int .u32]], Kd.int .u32, Kd.bool, Kd.int .u32, Kd.bool, Kd.int .u32, Kd.bool, Kd.bool, Kd.int .u32, Kd.int .u32, Kd.lst [Kd.int .u32], Kd.lst [Kd.int .i64, Kd.lst [Kd.int .u8]]], Pk.bool]
abbrev zz7_rs : List Pk := []
abbrev zz7_os : List PK := [PK.row T_uint8 [Kd.int .u8]]
def zz7_l10 (j0_2 : List UInt8) (a1 : Ty1) (l6 : List (List UInt8)) (x40 : Int) (next10 : (List (List UInt8) × Int × Unit) -> Prop) (K : List UInt8 -> Prop) : Prop :=
 IfB (decide ((x40 : Int) < (a1.2.2.2.2.2.2.2.2.2.2.2.1.length : Int)))
 ((0 : Int) <= x40 ∧ AtN a1.2.2.2.2.2.2.2.2.2.2.2.1 x40.toNat fun x42 =>
 WfT ks_int_u32 x42 →
 (WfPs zz9_ps ((x42.toNat : Int), ()) →
 zz9_q (x42.toNat : Int) (fun x46 =>
 WfPs zz9_rs (x46, ()) →
 l6.length + ([x46] : List (List UInt8)).length <= 5864062014709 ∧
 next10 ((l6 ++ ([x46] : List (List UInt8))), (IntKind.wrap .i64 (x40 + 1)), ()))))
 ((WfY zz2_os (j0_2, ()) →
 WfPs zz2_ps ((8 : Int), l6, ()) →
 zz2_q j0_2 (8 : Int) l6 (fun ox520 =>
 WfY zz2_os (ox520, ()) →
 WfPs zz2_rs () →
 K ox520)))
def zz7_j2 (a1 : Ty1) (j0_2 : List UInt8) (K : List UInt8 -> Prop) : Prop :=
 IfB (decide (((a1.2.2.2.2.2.2.2.2.2.2.2.1.length : Int) : Int) > 0))
 (LoopJ (List (List UInt8) × Int × Unit) (([] : List (List UInt8)), (0 : Int), ()) fun y next =>
 WfY pl_zz7_10.kinds y →
 zz7_l10 j0_2 a1 y.1 y.2.1 next K)
 (K j0_2)
def zz7_j1 (four2 : Bool) (a1 : Ty1) (j0_1 : List UInt8) (K : List UInt8 -> Prop) : Prop :=
 IfB a1.2.2.2.2.2.2.2.2.1
 ((WfPs zz32_ps ((a1.2.2.2.2.2.2.2.2.2.1.toNat : Int), four2, ()) →
 zz32_q (a1.2.2.2.2.2.2.2.2.2.1.toNat : Int) four2 (fun x27 =>
 WfPs zz32_rs (x27, ()) →
 (WfPs zz9_ps ((a1.2.2.2.2.2.2.2.2.2.2.1.toNat : Int), ()) →
 zz9_q (a1.2.2.2.2.2.2.2.2.2.2.1.toNat : Int) (fun x30 =>
 WfPs zz9_rs (x30, ()) →
 (WfY zz2_os (j0_1, ()) →
 WfPs zz2_ps ((7 : Int), ([x27, x30] : List (List UInt8)), ()) →
 zz2_q j0_1 (7 : Int) ([x27, x30] : List (List UInt8)) (fun ox320 =>
 WfY zz2_os (ox320, ()) →
 WfPs zz2_rs () →
 zz7_j2 a1 ox320 K)))))))
 (zz7_j2 a1 j0_1 K)
def zz7_j0 (four2 : Bool) (a1 : Ty1) (j0 : List UInt8) (K : List UInt8 -> Prop) : Prop :=
 IfB a1.2.2.2.2.2.2.2.1
 ((WfY zz2_os (j0, ()) →
 WfPs zz2_ps ((6 : Int), ([] : List (List UInt8)), ()) →
 zz2_q j0 (6 : Int) ([] : List (List UInt8)) (fun ox200 =>
 WfY zz2_os (ox200, ()) →
 WfPs zz2_rs () →
 zz7_j1 four2 a1 ox200 K)))
 (zz7_j1 four2 a1 j0 K)
def zz7_q (c0 : List UInt8) (a1 : Ty1) (four2 : Bool) (K : List UInt8 -> Prop) : Prop :=
 IfB a1.2.2.2.1
 ((WfPs zz9_ps ((a1.2.2.2.2.1.toNat : Int), ()) →
 zz9_q (a1.2.2.2.2.1.toNat : Int) (fun x14 =>
 WfPs zz9_rs (x14, ()) →
 (WfY zz2_os (c0, ()) →
 WfPs zz2_ps ((4 : Int), ([x14] : List (List UInt8)), ()) →
 zz2_q c0 (4 : Int) ([x14] : List (List UInt8)) (fun ox160 =>
 WfY zz2_os (ox160, ()) →
 WfPs zz2_rs () →
 zz7_j0 four2 a1 ox160 K)))))
 (zz7_j0 four2 a1 c0 K)
noncomputable def tab_zz7 : Tab := ⟨[(f_zz2, ct_zz2), (f_zz9, ct_zz9), (f_zz32, ct_zz32)], []⟩
theorem zz7_eq : (fun (o : PTup zz7_os) (x : PkTs zz7_ps) (K : PTup zz7_os -> PkTs zz7_rs -> Prop) => zz7_q o.1 x.1 x.2.1 (fun o0 => K (o0, ()) (()))) = fun o x K => PCode Tryd.prog tab_zz7 plan_zz7 (bodyOf Tryd.f37) (parO T_attr_writer zz7_os zz7_ps o x) (PRet Tryd.prog Tryd.f37.results.toList fun a st => outO T_attr_writer zz7_os zz7_rs st a K) := by kernel_rfl
theorem zz7_fq : FnO Tryd.prog f_zz7 T_attr_writer zz7_os zz7_ps zz7_rs (fun o x K => zz7_q o.1 x.1 x.2.1 (fun o0 => K (o0, ()) (()))) := (fnO_of k_zz7 (tab := tab_zz7) ⟨⟨ct_zz2_ok, ct_zz9_ok, ct_zz32_ok, trivial⟩, trivial⟩ rfl).of_eq zz7_eq
noncomputable def ct_zz7 : Ct := ctObj T_attr_writer zz7_os zz7_ps zz7_rs (fun o x K => zz7_q o.1 x.1 x.2.1 (fun o0 => K (o0, ()) (())))
theorem ct_zz7_ok : SoundCt Tryd.prog f_zz7 ct_zz7 := ctObj_sound zz7_fq
def plan_zz1 : PPlan := ⟨[], [], [], [], [], []⟩
theorem k_zz1 : Known Tryd.prog f_zz1 Tryd.f60 plan_zz1.plan (bodyOf Tryd.f60) := by refine ⟨Tryd.func60, ?_, ?_, ?_, ?_, ?_⟩ <;> kernel_rfl
abbrev zz1_ps : List Pk := [Pk.int .u32]
abbrev zz1_rs : List Pk := [Pk.bool]
def zz1_q (as0 : Int) (K : Bool -> Prop) : Prop :=
 K (decide ((as0 : Int) > 65535))
noncomputable def tab_zz1 : Tab := ⟨[], []⟩
abbrev zz1_L (x : PkTs zz1_ps) (K : PkTs zz1_rs -> Prop) : Prop := zz1_q x.1 (fun r0 => K (r0, ()))
theorem zz1_eq : zz1_L = fun x K => PCode Tryd.prog tab_zz1 plan_zz1 (bodyOf Tryd.f60) (parS zz1_ps x) (PRet Tryd.prog Tryd.f60.results.toList fun a st => outP zz1_rs st a K) := by kernel_rfl
theorem zz1_fq : FnQ Tryd.prog f_zz1 zz1_ps zz1_rs zz1_L := (fnQ_of k_zz1 (tab := tab_zz1) ⟨trivial, trivial⟩ rfl).of_eq zz1_eq
noncomputable def ct_zz1 : Ct := ctRd zz1_ps zz1_rs zz1_L
theorem ct_zz1_ok : SoundCt Tryd.prog f_zz1 ct_zz1 := ctRd_sound zz1_fq
def pl_zz28_at_zz1_2 : PLoop := ⟨[(8, PK.int .i64)], [0, 1, 7], []⟩
def plan_zz28_at_zz1 : PPlan := ⟨[], [(2, pl_zz28_at_zz1_2)], [], [], [], []⟩
theorem k_zz28_at_zz1 : Known Tryd.prog f_zz28 Tryd.f77 plan_zz28_at_zz1.plan (bodyOf Tryd.f77) := by refine ⟨Tryd.func77, ?_, ?_, ?_, ?_, ?_⟩ <;> kernel_rfl
abbrev zz28_at_zz1_ps : List Pk := [Pk.lst [Kd.int .u32], Pk.fn 60]
abbrev zz28_at_zz1_rs : List Pk := [Pk.int .i64]
def zz28_at_zz1_l2 (s0 : List UInt32) (x8 : Int) (next2 : (Int × Unit) -> Prop) (K : Int -> Prop) : Prop :=
 IfB (decide ((x8 : Int) < (s0.length : Int)))
 ((0 : Int) <= x8 ∧ AtN s0 x8.toNat fun x14 =>
 WfT ks_int_u32 x14 →
 (WfPs zz1_ps ((x14.toNat : Int), ()) →
 zz1_q (x14.toNat : Int) (fun x16 =>
 WfPs zz1_rs (x16, ()) →
 IfB x16
 (K x8)
 (next2 ((IntKind.wrap .i64 (x8 + 1)), ())))))
 (K (-1))
def zz28_at_zz1_q (s0 : List UInt32) (K : Int -> Prop) : Prop :=
 LoopJ (Int × Unit) ((0 : Int), ()) fun y next =>
 WfY pl_zz28_at_zz1_2.kinds y →
 zz28_at_zz1_l2 s0 y.1 next K
noncomputable def tab_zz28_at_zz1 : Tab := ⟨[(f_zz1, ct_zz1)], []⟩
abbrev zz28_at_zz1_L (x : PkTs zz28_at_zz1_ps) (K : PkTs zz28_at_zz1_rs -> Prop) : Prop := zz28_at_zz1_q x.1 (fun r0 => K (r0, ()))
theorem zz28_at_zz1_eq : zz28_at_zz1_L = fun x K => PCode Tryd.prog tab_zz28_at_zz1 plan_zz28_at_zz1 (bodyOf Tryd.f77) (parS zz28_at_zz1_ps x) (PRet Tryd.prog Tryd.f77.results.toList fun a st => outP zz28_at_zz1_rs st a K) := by kernel_rfl
theorem zz28_at_zz1_fq : FnQ Tryd.prog f_zz28 zz28_at_zz1_ps zz28_at_zz1_rs zz28_at_zz1_L := (fnQ_of k_zz28_at_zz1 (tab := tab_zz28_at_zz1) ⟨⟨ct_zz1_ok, trivial⟩, trivial⟩ rfl).of_eq zz28_at_zz1_eq
noncomputable def ct_zz28_at_zz1 : Ct := ctRd zz28_at_zz1_ps zz28_at_zz1_rs zz28_at_zz1_L
theorem ct_zz28_at_zz1_ok : SoundCt Tryd.prog f_zz28 ct_zz28_at_zz1 := ctRd_sound zz28_at_zz1_fq
def plan_zz47_at_zz1 : PPlan := ⟨[], [], [], [], [], []⟩
theorem k_zz47_at_zz1 : Known Tryd.prog f_zz47 Tryd.f59 plan_zz47_at_zz1.plan (bodyOf Tryd.f59) := by refine ⟨Tryd.func59, ?_, ?_, ?_, ?_, ?_⟩ <;> kernel_rfl
abbrev zz47_at_zz1_ps : List Pk := [Pk.lst [Kd.int .u32], Pk.fn 60]
abbrev zz47_at_zz1_rs : List Pk := [Pk.bool]
def zz47_at_zz1_q (s0 : List UInt32) (K : Bool -> Prop) : Prop :=
 (WfPs zz28_at_zz1_ps (s0, (), ()) →
 zz28_at_zz1_q s0 (fun x7 =>
 WfPs zz28_at_zz1_rs (x7, ()) →
 K (decide ((x7 : Int) ≥ 0))))
noncomputable def tab_zz47_at_zz1 : Tab := ⟨[(f_zz28, ctDisp 1 [(f_zz1, ct_zz28_at_zz1)])], []⟩
abbrev zz47_at_zz1_L (x : PkTs zz47_at_zz1_ps) (K : PkTs zz47_at_zz1_rs -> Prop) : Prop := zz47_at_zz1_q x.1 (fun r0 => K (r0, ()))
theorem zz47_at_zz1_eq : zz47_at_zz1_L = fun x K => PCode Tryd.prog tab_zz47_at_zz1 plan_zz47_at_zz1 (bodyOf Tryd.f59) (parS zz47_at_zz1_ps x) (PRet Tryd.prog Tryd.f59.results.toList fun a st => outP zz47_at_zz1_rs st a K) := by kernel_rfl
theorem zz47_at_zz1_fq : FnQ Tryd.prog f_zz47 zz47_at_zz1_ps zz47_at_zz1_rs zz47_at_zz1_L := (fnQ_of k_zz47_at_zz1 (tab := tab_zz47_at_zz1) ⟨⟨ctDisp_sound ⟨ct_zz28_at_zz1_ok, trivial⟩, trivial⟩, trivial⟩ rfl).of_eq zz47_at_zz1_eq
noncomputable def ct_zz47_at_zz1 : Ct := ctRd zz47_at_zz1_ps zz47_at_zz1_rs zz47_at_zz1_L
theorem ct_zz47_at_zz1_ok : SoundCt Tryd.prog f_zz47 ct_zz47_at_zz1 := ctRd_sound zz47_at_zz1_fq
def plan_zz0 : PPlan := ⟨[], [], [], [], [], []⟩
theorem k_zz0 : Known Tryd.prog f_zz0 Tryd.f58 plan_zz0.plan (bodyOf Tryd.f58) := by refine ⟨Tryd.func58, ?_, ?_, ?_, ?_, ?_⟩ <;> kernel_rfl
abbrev zz0_ps : List Pk := [Pk.agg [Kd.bool, Kd.lst [Kd.int .u32]]]
abbrev zz0_rs : List Pk := [Pk.bool]
def zz0_q (s0 : Bool × List UInt32) (K : Bool -> Prop) : Prop :=
 (WfPs zz47_at_zz1_ps (s0.2, (), ()) →
 zz47_at_zz1_q s0.2 (fun x5 =>
 WfPs zz47_at_zz1_rs (x5, ()) →
 K x5))
noncomputable def tab_zz0 : Tab := ⟨[(f_zz47, ctDisp 1 [(f_zz1, ct_zz47_at_zz1)])], []⟩
abbrev zz0_L (x : PkTs zz0_ps) (K : PkTs zz0_rs -> Prop) : Prop := zz0_q x.1 (fun r0 => K (r0, ()))
theorem zz0_eq : zz0_L = fun x K => PCode Tryd.prog tab_zz0 plan_zz0 (bodyOf Tryd.f58) (parS zz0_ps x) (PRet Tryd.prog Tryd.f58.results.toList fun a st => outP zz0_rs st a K) := by kernel_rfl
theorem zz0_fq : FnQ Tryd.prog f_zz0 zz0_ps zz0_rs zz0_L := (fnQ_of k_zz0 (tab := tab_zz0) ⟨⟨ctDisp_sound ⟨ct_zz47_at_zz1_ok, trivial⟩, trivial⟩, trivial⟩ rfl).of_eq zz0_eq
noncomputable def ct_zz0 : Ct := ctRd zz0_ps zz0_rs zz0_L
theorem ct_zz0_ok : SoundCt Tryd.prog f_zz0 ct_zz0 := ctRd_sound zz0_fq
def pl_zz29_at_zz0_2 : PLoop := ⟨[(8, PK.int .i64)], [0, 1, 7], []⟩
def plan_zz29_at_zz0 : PPlan := ⟨[], [(2, pl_zz29_at_zz0_2)], [], [], [], []⟩
theorem k_zz29_at_zz0 : Known Tryd.prog f_zz29 Tryd.f76 plan_zz29_at_zz0.plan (bodyOf Tryd.f76) := by refine ⟨Tryd.func76, ?_, ?_, ?_, ?_, ?_⟩ <;> kernel_rfl
abbrev zz29_at_zz0_ps : List Pk := [Pk.lst [Kd.bool, Kd.lst [Kd.int .u32]], Pk.fn 58]
abbrev zz29_at_zz0_rs : List Pk := [Pk.int .i64]
def zz29_at_zz0_l2 (s0 : List (Bool × List UInt32)) (x8 : Int) (next2 : (Int × Unit) -> Prop) (K : Int -> Prop) : Prop :=
 IfB (decide ((x8 : Int) < (s0.length : Int)))
 ((0 : Int) <= x8 ∧ AtN s0 x8.toNat fun x14 =>
 WfT ks_bool_lst_int_u32 x14 →
 (WfPs zz0_ps (x14, ()) →
 zz0_q x14 (fun x16 =>
 WfPs zz0_rs (x16, ()) →
 IfB x16
 (K x8)
 (next2 ((IntKind.wrap .i64 (x8 + 1)), ())))))
 (K (-1))
def zz29_at_zz0_q (s0 : List (Bool × List UInt32)) (K : Int -> Prop) : Prop :=
 LoopJ (Int × Unit) ((0 : Int), ()) fun y next =>
 WfY pl_zz29_at_zz0_2.kinds y →
 zz29_at_zz0_l2 s0 y.1 next K
noncomputable def tab_zz29_at_zz0 : Tab := ⟨[(f_zz0, ct_zz0)], []⟩
abbrev zz29_at_zz0_L (x : PkTs zz29_at_zz0_ps) (K : PkTs zz29_at_zz0_rs -> Prop) : Prop := zz29_at_zz0_q x.1 (fun r0 => K (r0, ()))
theorem zz29_at_zz0_eq : zz29_at_zz0_L = fun x K => PCode Tryd.prog tab_zz29_at_zz0 plan_zz29_at_zz0 (bodyOf Tryd.f76) (parS zz29_at_zz0_ps x) (PRet Tryd.prog Tryd.f76.results.toList fun a st => outP zz29_at_zz0_rs st a K) := by kernel_rfl
theorem zz29_at_zz0_fq : FnQ Tryd.prog f_zz29 zz29_at_zz0_ps zz29_at_zz0_rs zz29_at_zz0_L := (fnQ_of k_zz29_at_zz0 (tab := tab_zz29_at_zz0) ⟨⟨ct_zz0_ok, trivial⟩, trivial⟩ rfl).of_eq zz29_at_zz0_eq
noncomputable def ct_zz29_at_zz0 : Ct := ctRd zz29_at_zz0_ps zz29_at_zz0_rs zz29_at_zz0_L
theorem ct_zz29_at_zz0_ok : SoundCt Tryd.prog f_zz29 ct_zz29_at_zz0 := ctRd_sound zz29_at_zz0_fq
def plan_zz48_at_zz0 : PPlan := ⟨[], [], [], [], [], []⟩
theorem k_zz48_at_zz0 : Known Tryd.prog f_zz48 Tryd.f57 plan_zz48_at_zz0.plan (bodyOf Tryd.f57) := by refine ⟨Tryd.func57, ?_, ?_, ?_, ?_, ?_⟩ <;> kernel_rfl
abbrev zz48_at_zz0_ps : List Pk := [Pk.lst [Kd.bool, Kd.lst [Kd.int .u32]], Pk.fn 58]
abbrev zz48_at_zz0_rs : List Pk := [Pk.bool]
def zz48_at_zz0_q (s0 : List (Bool × List UInt32)) (K : Bool -> Prop) : Prop :=
 (WfPs zz29_at_zz0_ps (s0, (), ()) →
 zz29_at_zz0_q s0 (fun x7 =>
 WfPs zz29_at_zz0_rs (x7, ()) →
 K (decide ((x7 : Int) ≥ 0))))
noncomputable def tab_zz48_at_zz0 : Tab := ⟨[(f_zz29, ctDisp 1 [(f_zz0, ct_zz29_at_zz0)])], []⟩
abbrev zz48_at_zz0_L (x : PkTs zz48_at_zz0_ps) (K : PkTs zz48_at_zz0_rs -> Prop) : Prop := zz48_at_zz0_q x.1 (fun r0 => K (r0, ()))
theorem zz48_at_zz0_eq : zz48_at_zz0_L = fun x K => PCode Tryd.prog tab_zz48_at_zz0 plan_zz48_at_zz0 (bodyOf Tryd.f57) (parS zz48_at_zz0_ps x) (PRet Tryd.prog Tryd.f57.results.toList fun a st => outP zz48_at_zz0_rs st a K) := by kernel_rfl
theorem zz48_at_zz0_fq : FnQ Tryd.prog f_zz48 zz48_at_zz0_ps zz48_at_zz0_rs zz48_at_zz0_L := (fnQ_of k_zz48_at_zz0 (tab := tab_zz48_at_zz0) ⟨⟨ctDisp_sound ⟨ct_zz29_at_zz0_ok, trivial⟩, trivial⟩, trivial⟩ rfl).of_eq zz48_at_zz0_eq
noncomputable def ct_zz48_at_zz0 : Ct := ctRd zz48_at_zz0_ps zz48_at_zz0_rs zz48_at_zz0_L
theorem ct_zz48_at_zz0_ok : SoundCt Tryd.prog f_zz48 ct_zz48_at_zz0 := ctRd_sound zz48_at_zz0_fq
def plan_zz44 : PPlan := ⟨[], [], [], [], [], []⟩
theorem k_zz44 : Known Tryd.prog f_zz44 Tryd.f38 plan_zz44.plan (bodyOf Tryd.f38) := by refine ⟨Tryd.func38, ?_, ?_, ?_, ?_, ?_⟩ <;> kernel_rfl
abbrev zz44_ps : List Pk := [Pk.lst [Kd.bool, Kd.lst [Kd.int .u32]]]
abbrev zz44_rs : List Pk := [Pk.bool]
def zz44_q (p0 : List (Bool × List UInt32)) (K : Bool -> Prop) : Prop :=
 (WfPs zz48_at_zz0_ps (p0, (), ()) →
 zz48_at_zz0_q p0 (fun x4 =>
 WfPs zz48_at_zz0_rs (x4, ()) →
 K x4))
noncomputable def tab_zz44 : Tab := ⟨[(f_zz48, ctDisp 1 [(f_zz0, ct_zz48_at_zz0)])], []⟩
abbrev zz44_L (x : PkTs zz44_ps) (K : PkTs zz44_rs -> Prop) : Prop := zz44_q x.1 (fun r0 => K (r0, ()))
theorem zz44_eq : zz44_L = fun x K => PCode Tryd.prog tab_zz44 plan_zz44 (bodyOf Tryd.f38) (parS zz44_ps x) (PRet Tryd.prog Tryd.f38.results.toList fun a st => outP zz44_rs st a K) := by kernel_rfl
theorem zz44_fq : FnQ Tryd.prog f_zz44 zz44_ps zz44_rs zz44_L := (fnQ_of k_zz44 (tab := tab_zz44) ⟨⟨ctDisp_sound ⟨ct_zz48_at_zz0_ok, trivial⟩, trivial⟩, trivial⟩ rfl).of_eq zz44_eq
noncomputable def ct_zz44 : Ct := ctRd zz44_ps zz44_rs zz44_L
theorem ct_zz44_ok : SoundCt Tryd.prog f_zz44 ct_zz44 := ctRd_sound zz44_fq
def pl_zz4_16 : PLoop := ⟨[(87, PK.int .i64)], [7, 85, 86], [(7, [PK.row T_uint8 [Kd.int .u8]])]⟩
def plan_zz4 : PPlan := ⟨[(14, [0, 1, 2, 4, 5, 3, 6, 7, 8], [80])], [(16, pl_zz4_16)], [], [], [], []⟩
theorem k_zz4 : Known Tryd.prog f_zz4 Tryd.f20 plan_zz4.plan (bodyOf Tryd.f20) := by refine ⟨Tryd.func20, ?_, ?_, ?_, ?_, ?_⟩ <;> kernel_rfl
abbrev zz4_ps : List Pk := [Pk.agg [Kd.int .i64, Kd.lst [Kd.bool, Kd.lst [Kd.int .u32]], Kd.int .u32, Kd.bool, Kd.int .u32, Kd.bool, Kd.int .u32, Kd.bool, Kd.bool, Kd.int .u32, Kd.int .u32, Kd.lst [Kd.int .u32], Kd.lst [Kd.int .i64, Kd.lst [Kd.int .u8]]], Pk.bool]
abbrev zz4_rs : List Pk := [Pk.own T_uint8 [Kd.int .u8], Pk.int .i64]
def zz4_l16 (a0 : Ty1) (x87 : Int) (c0 : List UInt8) (next16 : (Int × List UInt8 × Unit) -> Prop) (K : List UInt8 -> Int -> Prop) : Prop :=
 IfB (decide ((x87 : Int) < (a0.2.2.2.2.2.2.2.2.2.2.2.2.length : Int)))
 ((0 : Int) <= x87 ∧ AtN a0.2.2.2.2.2.2.2.2.2.2.2.2 x87.toNat fun x89 =>
 WfT ks_int_i64_lst_int_u8 x89 →
 (WfY zz15_os (c0, ()) →
 WfPs zz15_ps ((224 : Int), x89.1, ([x89.2] : List (List UInt8)), ()) →
 zz15_q c0 (224 : Int) x89.1 ([x89.2] : List (List UInt8)) (fun ox970 =>
 WfY zz15_os (ox970, ()) →
 WfPs zz15_rs () →
 next16 ((IntKind.wrap .i64 (x87 + 1)), ox970, ()))))
 (K c0 0)
def zz4_j4 (j13 : List UInt8) (a0 : Ty1) (K : List UInt8 -> Int -> Prop) : Prop :=
 LoopJ (Int × List UInt8 × Unit) ((0 : Int), j13, ()) fun y next =>
 WfY pl_zz4_16.kinds y →
 zz4_l16 a0 y.1 y.2.1 next K
def zz4_j3 (a0 : Ty1) (j13 : List UInt8) (K : List UInt8 -> Int -> Prop) : Prop :=
 zz4_j4 j13 a0 K
def zz4_j2 (a0 : Ty1) (j14 : List UInt8) (j14_1 : Bool) (K : List UInt8 -> Int -> Prop) : Prop :=
 IfB j14_1
 ((WfPs zz9_ps ((a0.2.2.2.2.2.2.2.2.2.1.toNat : Int), ()) →
 zz9_q (a0.2.2.2.2.2.2.2.2.2.1.toNat : Int) (fun x78 =>
 WfPs zz9_rs (x78, ()) →
 (WfPs zz9_ps ((a0.2.2.2.2.2.2.2.2.2.2.1.toNat : Int), ()) →
 zz9_q (a0.2.2.2.2.2.2.2.2.2.2.1.toNat : Int) (fun x81 =>
 WfPs zz9_rs (x81, ()) →
 (WfY zz2_os (j14, ()) →
 WfPs zz2_ps ((18 : Int), ([x78, x81] : List (List UInt8)), ()) →
 zz2_q j14 (18 : Int) ([x78, x81] : List (List UInt8)) (fun ox830 =>
 WfY zz2_os (ox830, ()) →
 WfPs zz2_rs () →
 zz4_j3 a0 ox830 K)))))))
 (zz4_j3 a0 j14 K)
def zz4_j1 (four1 : Bool) (a0 : Ty1) (j14 : List UInt8) (K : List UInt8 -> Int -> Prop) : Prop :=
 IfB (!four1)
 (IfB a0.2.2.2.2.2.2.2.2.1
 (zz4_j2 a0 j14 (decide (((a0.2.2.2.2.2.2.2.2.2.1.toNat : Int) : Int) > 65535)) K)
 (zz4_j2 a0 j14 false K))
 (zz4_j2 a0 j14 false K)
def zz4_j0 (four1 : Bool) (a0 : Ty1) (ox460 : List UInt8) (j15 : Bool) (K : List UInt8 -> Int -> Prop) : Prop :=
 IfB j15
 ((WfPs zz6_ps (a0.2.1, true, ()) →
 zz6_q a0.2.1 true (fun x57r0 x57r1 =>
 WfPs zz6_rs (x57r0, x57r1, ()) →
 (WfY zz2_os (ox460, ()) →
 WfPs zz2_ps ((17 : Int), ([x57r0] : List (List UInt8)), ()) →
 zz2_q ox460 (17 : Int) ([x57r0] : List (List UInt8)) (fun ox630 =>
 WfY zz2_os (ox630, ()) →
 WfPs zz2_rs () →
 zz4_j1 four1 a0 ox630 K)))))
 (zz4_j1 four1 a0 ox460 K)
def zz4_q (a0 : Ty1) (four1 : Bool) (K : List UInt8 -> Int -> Prop) : Prop :=
 (WfPs zz14_ps (((a0.1, a0.2.1, (ofI .u32 (a0.2.2.1.toNat : Int)), a0.2.2.2.1, (ofI .u32 (a0.2.2.2.2.1.toNat : Int)), a0.2.2.2.2.2.1, (ofI .u32 (a0.2.2.2.2.2.2.1.toNat : Int)), a0.2.2.2.2.2.2.2.1, a0.2.2.2.2.2.2.2.2.1, (ofI .u32 (a0.2.2.2.2.2.2.2.2.2.1.toNat : Int)), (ofI .u32 (a0.2.2.2.2.2.2.2.2.2.2.1.toNat : Int)), a0.2.2.2.2.2.2.2.2.2.2.2.1, a0.2.2.2.2.2.2.2.2.2.2.2.2) : Ty1), ()) →
 zz14_q ((a0.1, a0.2.1, (ofI .u32 (a0.2.2.1.toNat : Int)), a0.2.2.2.1, (ofI .u32 (a0.2.2.2.2.1.toNat : Int)), a0.2.2.2.2.2.1, (ofI .u32 (a0.2.2.2.2.2.2.1.toNat : Int)), a0.2.2.2.2.2.2.2.1, a0.2.2.2.2.2.2.2.2.1, (ofI .u32 (a0.2.2.2.2.2.2.2.2.2.1.toNat : Int)), (ofI .u32 (a0.2.2.2.2.2.2.2.2.2.2.1.toNat : Int)), a0.2.2.2.2.2.2.2.2.2.2.2.1, a0.2.2.2.2.2.2.2.2.2.2.2.2) : Ty1) (fun x13 =>
 WfPs zz14_rs (x13, ()) →
 IfB ((x13 : Int) != 0)
 (K ([] : List UInt8) x13)
 ((WfPs zz6_ps (a0.2.1, four1, ()) →
 zz6_q a0.2.1 four1 (fun x23r0 x23r1 =>
 WfPs zz6_rs (x23r0, x23r1, ()) →
 (WfY zz2_os (([] : List UInt8), ()) →
 WfPs zz2_ps ((1 : Int), ([([(ofI .u8 (IntKind.wrap .u8 a0.1))] : List UInt8)] : List (List UInt8)), ()) →
 zz2_q ([] : List UInt8) (1 : Int) ([([(ofI .u8 (IntKind.wrap .u8 a0.1))] : List UInt8)] : List (List UInt8)) (fun ox320 =>
 WfY zz2_os (ox320, ()) →
 WfPs zz2_rs () →
 (WfY zz2_os (ox320, ()) →
 WfPs zz2_ps ((2 : Int), ([x23r0] : List (List UInt8)), ()) →
 zz2_q ox320 (2 : Int) ([x23r0] : List (List UInt8)) (fun ox360 =>
 WfY zz2_os (ox360, ()) →
 WfPs zz2_rs () →
 (WfPs zz9_ps ((a0.2.2.1.toNat : Int), ()) →
 zz9_q (a0.2.2.1.toNat : Int) (fun x40 =>
 WfPs zz9_rs (x40, ()) →
 (WfY zz2_os (ox360, ()) →
 WfPs zz2_ps ((3 : Int), ([x40] : List (List UInt8)), ()) →
 zz2_q ox360 (3 : Int) ([x40] : List (List UInt8)) (fun ox420 =>
 WfY zz2_os (ox420, ()) →
 WfPs zz2_rs () →
 (WfY zz7_os (ox420, ()) →
 WfPs zz7_ps (((a0.1, a0.2.1, (ofI .u32 (a0.2.2.1.toNat : Int)), a0.2.2.2.1, (ofI .u32 (a0.2.2.2.2.1.toNat : Int)), a0.2.2.2.2.2.1, (ofI .u32 (a0.2.2.2.2.2.2.1.toNat : Int)), a0.2.2.2.2.2.2.2.1, a0.2.2.2.2.2.2.2.2.1, (ofI .u32 (a0.2.2.2.2.2.2.2.2.2.1.toNat : Int)), (ofI .u32 (a0.2.2.2.2.2.2.2.2.2.2.1.toNat : Int)), a0.2.2.2.2.2.2.2.2.2.2.2.1, a0.2.2.2.2.2.2.2.2.2.2.2.2) : Ty1), four1, ()) →
 zz7_q ox420 ((a0.1, a0.2.1, (ofI .u32 (a0.2.2.1.toNat : Int)), a0.2.2.2.1, (ofI .u32 (a0.2.2.2.2.1.toNat : Int)), a0.2.2.2.2.2.1, (ofI .u32 (a0.2.2.2.2.2.2.1.toNat : Int)), a0.2.2.2.2.2.2.2.1, a0.2.2.2.2.2.2.2.2.1, (ofI .u32 (a0.2.2.2.2.2.2.2.2.2.1.toNat : Int)), (ofI .u32 (a0.2.2.2.2.2.2.2.2.2.2.1.toNat : Int)), a0.2.2.2.2.2.2.2.2.2.2.2.1, a0.2.2.2.2.2.2.2.2.2.2.2.2) : Ty1) four1 (fun ox460 =>
 WfY zz7_os (ox460, ()) →
 WfPs zz7_rs () →
 IfB (!four1)
 ((WfPs zz44_ps (a0.2.1, ()) →
 zz44_q a0.2.1 (fun x52 =>
 WfPs zz44_rs (x52, ()) →
 zz4_j0 four1 a0 ox460 x52 K)))
 (zz4_j0 four1 a0 ox460 false K))))))))))))))))
noncomputable def tab_zz4 : Tab := ⟨[(f_zz14, ct_zz14), (f_zz6, ct_zz6), (f_zz2, ct_zz2), (f_zz9, ct_zz9), (f_zz7, ct_zz7), (f_zz44, ct_zz44), (f_zz15, ct_zz15)], []⟩
abbrev zz4_L (x : PkTs zz4_ps) (K : PkTs zz4_rs -> Prop) : Prop := zz4_q x.1 x.2.1 (fun r0 r1 => K (r0, r1, ()))
theorem zz4_eq : zz4_L = fun x K => PCode Tryd.prog tab_zz4 plan_zz4 (bodyOf Tryd.f20) (parS zz4_ps x) (PRet Tryd.prog Tryd.f20.results.toList fun a st => outP zz4_rs st a K) := by kernel_rfl
theorem zz4_fq : FnQ Tryd.prog f_zz4 zz4_ps zz4_rs zz4_L := (fnQ_of k_zz4 (tab := tab_zz4) ⟨⟨ct_zz14_ok, ct_zz6_ok, ct_zz2_ok, ct_zz9_ok, ct_zz7_ok, ct_zz44_ok, ct_zz15_ok, trivial⟩, trivial⟩ rfl).of_eq zz4_eq
noncomputable def ct_zz4 : Ct := ctVal zz4_ps zz4_rs zz4_L
theorem ct_zz4_ok : SoundCt Tryd.prog f_zz4 ct_zz4 := ctVal_sound zz4_fq
def plan_zz52 : PPlan := ⟨[], [], [], [], [], []⟩
theorem k_zz52 : Known Tryd.prog f_zz52 Tryd.f86 plan_zz52.plan (bodyOf Tryd.f86) := by refine ⟨Tryd.func86, ?_, ?_, ?_, ?_, ?_⟩ <;> kernel_rfl
noncomputable def tab_zz52 : Tab := ⟨[], []⟩
noncomputable def ct_zz52 : Ct := ctInl Tryd.prog tab_zz52 plan_zz52 (bodyOf Tryd.f86) Tryd.f86.ntmps Tryd.f86.results.toList
theorem ct_zz52_ok : SoundCt Tryd.prog f_zz52 ct_zz52 := ctInl_sound k_zz52 ⟨trivial, trivial⟩
def pl_zz3_5 : PLoop := ⟨[(0, PK.lst [Kd.int .u8]), (7, PK.row T_api_Segment [Kd.bool, Kd.lst [Kd.int .u32]])], [6], []⟩
def pl_zz3_13 : PLoop := ⟨[(11, PK.int .u32), (65, PK.int .i64)], [8, 63, 64], [(8, [PK.bool, PK.row T_uint32 [Kd.int .u32]])]⟩
def pl_zz3_4000010 : PLoop := ⟨[], [0, 6, 7, 8, 9], [(8, [PK.bool, PK.row T_uint32 [Kd.int .u32]])]⟩
def plan_zz3 : PPlan := ⟨[(18, [0, 1, 4, 5, 6, 2, 3, 7, 8], [])], [(5, pl_zz3_5), (13, pl_zz3_13), (4000010, pl_zz3_4000010)], [], [], [], []⟩
theorem k_zz3 : Known Tryd.prog f_zz3 Tryd.f68 plan_zz3.plan (bodyOf Tryd.f68) := by refine ⟨Tryd.func68, ?_, ?_, ?_, ?_, ?_⟩ <;> kernel_rfl
abbrev zz3_ps : List Pk := [Pk.lst [Kd.int .u8], Pk.bool]
abbrev zz3_rs : List Pk := [Pk.lst [Kd.bool, Kd.lst [Kd.int .u32]], Pk.int .i64]
def zz3_j2  (K : List (Bool × List UInt32) -> Int -> Prop) : Prop :=
 K ([] : List (Bool × List UInt32)) 7
def zz3_e4000010 (b0_1 : List UInt8) (j1 : Int) (p7 : List (Bool × List UInt32)) (x46 : UInt8) (x51 : UInt8) (next5 : (List UInt8 × List (Bool × List UInt32) × Unit) -> Prop) (c0 : Bool) (c1 : List UInt32) (K : List (Bool × List UInt32) -> Int -> Prop) : Prop :=
 (0 : Int) <= (IntKind.wrap .i64 (2 + (IntKind.wrap .i64 ((IntKind.wrap .i64 (x51.toNat : Int)) * j1)))) ∧ (IntKind.wrap .i64 (2 + (IntKind.wrap .i64 ((IntKind.wrap .i64 (x51.toNat : Int)) * j1)))) <= (b0_1.length : Int) ∧
 p7.length + ([(c0, c1)] : List (Bool × List UInt32)).length <= 4398046511008 ∧
 next5 ((b0_1.drop ((IntKind.wrap .i64 (2 + (IntKind.wrap .i64 ((IntKind.wrap .i64 (x51.toNat : Int)) * j1)))).toNat)), (p7 ++ ([(c0, c1)] : List (Bool × List UInt32))), ())
def zz3_l13 (c0_1 : Bool) (x62 : List UInt8) (next5 : (List UInt8 × List (Bool × List UInt32) × Unit) -> Prop) (next4000010 : (Bool × List UInt32 × Unit) -> Prop) (as11 : Int) (x65 : Int) (c0_2 : Bool) (c1_2 : List UInt32) (next13 : (Int × Int × Bool × List UInt32 × Unit) -> Prop) (K : List (Bool × List UInt32) -> Int -> Prop) : Prop :=
 IfB (decide ((x65 : Int) < (x62.length : Int)))
 ((0 : Int) <= x65 ∧ AtN x62 x65.toNat fun x67 =>
 WfT ks_int_u8 x67 →
 (0 : Int) <= 8 ∧
 next13 ((bitsOr .u32 (IntKind.wrap .u32 (as11 * 256)) (IntKind.wrap .u32 (x67.toNat : Int))), (IntKind.wrap .i64 (x65 + 1)), c0_2, c1_2, ()))
 (c1_2.length + ([(ofI .u32 as11)] : List UInt32).length <= 35184372088736 ∧
 next4000010 (c0_2, (c1_2 ++ ([(ofI .u32 as11)] : List UInt32)), ()))
def zz3_l4000010 (b0_1 : List UInt8) (j1 : Int) (p7 : List (Bool × List UInt32)) (x46 : UInt8) (x51 : UInt8) (next5 : (List UInt8 × List (Bool × List UInt32) × Unit) -> Prop) (c0_1 : Bool) (c1_1 : List UInt32) (x62 : List UInt8) (next4000010 : (Bool × List UInt32 × Unit) -> Prop) (K : List (Bool × List UInt32) -> Int -> Prop) : Prop :=
 LoopJ (Int × Int × Bool × List UInt32 × Unit) ((0 : Int), (0 : Int), c0_1, c1_1, ()) fun y next =>
 WfY pl_zz3_13.kinds y →
 zz3_l13 c0_1 x62 next5 next4000010 y.1 y.2.1 y.2.2.1 y.2.2.2.1 next K
def zz3_j1 (b0_1 : List UInt8) (j1 : Int) (p7 : List (Bool × List UInt32)) (next5 : (List UInt8 × List (Bool × List UInt32) × Unit) -> Prop) (j3 : Bool) (K : List (Bool × List UInt32) -> Int -> Prop) : Prop :=
 IfB j3
 (zz3_j2 K)
 ((0 : Int) <= 0 ∧ AtN b0_1 0 fun x46 =>
 WfT ks_int_u8 x46 →
 (0 : Int) <= 1 ∧ AtN b0_1 1 fun x51 =>
 WfT ks_int_u8 x51 →
 (0 : Int) <= (IntKind.wrap .i64 (2 + (IntKind.wrap .i64 ((IntKind.wrap .i64 (x51.toNat : Int)) * j1)))) ∧ (IntKind.wrap .i64 (2 + (IntKind.wrap .i64 ((IntKind.wrap .i64 (x51.toNat : Int)) * j1)))) <= (b0_1.length : Int) ∧
 (0 : Int) <= 2 ∧ 2 <= ((IntKind.wrap .i64 (2 + (IntKind.wrap .i64 ((IntKind.wrap .i64 (x51.toNat : Int)) * j1)))).toNat : Int) ∧
 IfB (decide ((j1 : Int) < 1))
 (False)
 (it_chunk.pre (((b0_1.take ((IntKind.wrap .i64 (2 + (IntKind.wrap .i64 ((IntKind.wrap .i64 (x51.toNat : Int)) * j1)))).toNat)).drop 2), j1, ()) ∧
 EachJ (fun (y : (Bool × List UInt32 × Unit)) => WfY pl_zz3_4000010.kinds y -> zz3_e4000010 b0_1 j1 p7 x46 x51 next5 y.1 y.2.1 K)
 (fun (y : (Bool × List UInt32 × Unit)) (x : (List UInt8 × Unit)) (next : (Bool × List UInt32 × Unit) -> Prop) => WfY pl_zz3_4000010.kinds y -> WfPs it_chunk.ps x -> zz3_l4000010 b0_1 j1 p7 x46 x51 next5 y.1 y.2.1 x.1 next K) (it_chunk.xs (((b0_1.take ((IntKind.wrap .i64 (2 + (IntKind.wrap .i64 ((IntKind.wrap .i64 (x51.toNat : Int)) * j1)))).toNat)).drop 2), j1, ())) ((((x46.toNat : Int) : Int) == 1), ([] : List UInt32), ())))
def zz3_l5 (j1 : Int) (b0_1 : List UInt8) (p7 : List (Bool × List UInt32)) (next5 : (List UInt8 × List (Bool × List UInt32) × Unit) -> Prop) (K : List (Bool × List UInt32) -> Int -> Prop) : Prop :=
 IfB (decide (((b0_1.length : Int) : Int) > 0))
 (IfB (decide (((b0_1.length : Int) : Int) < 2))
 (zz3_j1 b0_1 j1 p7 next5 true K)
 ((0 : Int) <= 0 ∧ AtN b0_1 0 fun x23 =>
 WfT ks_int_u8 x23 →
 IfB (((x23.toNat : Int) : Int) != 1)
 ((0 : Int) <= 0 ∧ AtN b0_1 0 fun x28 =>
 WfT ks_int_u8 x28 →
 IfB (((x28.toNat : Int) : Int) != 2)
 (zz3_j1 b0_1 j1 p7 next5 true K)
 ((0 : Int) <= 1 ∧ AtN b0_1 1 fun x35 =>
 WfT ks_int_u8 x35 →
 zz3_j1 b0_1 j1 p7 next5 (decide (((IntKind.wrap .i64 ((IntKind.wrap .i64 (x35.toNat : Int)) * j1)) : Int) > (IntKind.wrap .i64 ((b0_1.length : Int) - 2)))) K))
 ((0 : Int) <= 1 ∧ AtN b0_1 1 fun x35_1 =>
 WfT ks_int_u8 x35_1 →
 zz3_j1 b0_1 j1 p7 next5 (decide (((IntKind.wrap .i64 ((IntKind.wrap .i64 (x35_1.toNat : Int)) * j1)) : Int) > (IntKind.wrap .i64 ((b0_1.length : Int) - 2)))) K)))
 ((WfPs zz8_ps (p7, ()) →
 zz8_q p7 (fun x89 =>
 WfPs zz8_rs (x89, ()) →
 IfB ((x89 : Int) == 0)
 (K p7 0)
 (K ([] : List (Bool × List UInt32)) 7))))
def zz3_j0 (b0 : List UInt8) (j1 : Int) (K : List (Bool × List UInt32) -> Int -> Prop) : Prop :=
 LoopJ (List UInt8 × List (Bool × List UInt32) × Unit) (b0, ([] : List (Bool × List UInt32)), ()) fun y next =>
 WfY pl_zz3_5.kinds y →
 zz3_l5 j1 y.1 y.2.1 next K
def zz3_q (b0 : List UInt8) (four1 : Bool) (K : List (Bool × List UInt32) -> Int -> Prop) : Prop :=
 IfB four1
 (zz3_j0 b0 4 K)
 (zz3_j0 b0 2 K)
noncomputable def tab_zz3 : Tab := ⟨[(f_zz8, ct_zz8), (f_zz52, ct_zz52)], [(f_zz57, it_chunk)]⟩
abbrev zz3_L (x : PkTs zz3_ps) (K : PkTs zz3_rs -> Prop) : Prop := zz3_q x.1 x.2.1 (fun r0 r1 => K (r0, r1, ()))
theorem zz3_eq : zz3_L = fun x K => PCode Tryd.prog tab_zz3 plan_zz3 (bodyOf Tryd.f68) (parS zz3_ps x) (PRet Tryd.prog Tryd.f68.results.toList fun a st => outP zz3_rs st a K) := by kernel_rfl
theorem zz3_fq : FnQ Tryd.prog f_zz3 zz3_ps zz3_rs zz3_L := (fnQ_of k_zz3 (tab := tab_zz3) ⟨⟨ct_zz8_ok, ct_zz52_ok, trivial⟩, ⟨it_chunk_ok, trivial⟩⟩ rfl).of_eq zz3_eq
def pl_zz17_3 : PLoop := ⟨[(3, PK.int .i64), (8, PK.int .i64)], [6, 7], []⟩
def plan_zz17 : PPlan := ⟨[], [(3, pl_zz17_3)], [], [], [], []⟩
theorem k_zz17 : Known Tryd.prog f_zz17 Tryd.f70 plan_zz17.plan (bodyOf Tryd.f70) := by refine ⟨Tryd.func70, ?_, ?_, ?_, ?_, ?_⟩ <;> kernel_rfl
abbrev zz17_ps : List Pk := [Pk.lst [Kd.bool, Kd.lst [Kd.int .u32]]]
abbrev zz17_rs : List Pk := [Pk.int .i64]
def zz17_j0 (p0 : List (Bool × List UInt32)) (x8 : Int) (next3 : (Int × Int × Unit) -> Prop) (j0 : Int) (K : Int -> Prop) : Prop :=
 next3 (j0, (IntKind.wrap .i64 (x8 + 1)), ())
def zz17_l3 (p0 : List (Bool × List UInt32)) (n3 : Int) (x8 : Int) (next3 : (Int × Int × Unit) -> Prop) (K : Int -> Prop) : Prop :=
 IfB (decide ((x8 : Int) < (p0.length : Int)))
 ((0 : Int) <= x8 ∧ AtN p0 x8.toNat fun x10 =>
 WfT ks_bool_lst_int_u32 x10 →
 IfB x10.1
 (zz17_j0 p0 x8 next3 (IntKind.wrap .i64 (n3 + 1)) K)
 (zz17_j0 p0 x8 next3 (IntKind.wrap .i64 (n3 + (x10.2.length : Int))) K))
 (K n3)
def zz17_q (p0 : List (Bool × List UInt32)) (K : Int -> Prop) : Prop :=
 LoopJ (Int × Int × Unit) ((0 : Int), (0 : Int), ()) fun y next =>
 WfY pl_zz17_3.kinds y →
 zz17_l3 p0 y.1 y.2.1 next K
noncomputable def tab_zz17 : Tab := ⟨[], []⟩
abbrev zz17_L (x : PkTs zz17_ps) (K : PkTs zz17_rs -> Prop) : Prop := zz17_q x.1 (fun r0 => K (r0, ()))
theorem zz17_eq : zz17_L = fun x K => PCode Tryd.prog tab_zz17 plan_zz17 (bodyOf Tryd.f70) (parS zz17_ps x) (PRet Tryd.prog Tryd.f70.results.toList fun a st => outP zz17_rs st a K) := by kernel_rfl
theorem zz17_fq : FnQ Tryd.prog f_zz17 zz17_ps zz17_rs zz17_L := (fnQ_of k_zz17 (tab := tab_zz17) ⟨trivial, trivial⟩ rfl).of_eq zz17_eq
noncomputable def ct_zz17 : Ct := ctRd zz17_ps zz17_rs zz17_L
theorem ct_zz17_ok : SoundCt Tryd.prog f_zz17 ct_zz17 := ctRd_sound zz17_fq
def plan_zz49 : PPlan := ⟨[], [], [], [], [], []⟩
theorem k_zz49 : Known Tryd.prog f_zz49 Tryd.f87 plan_zz49.plan (bodyOf Tryd.f87) := by refine ⟨Tryd.func87, ?_, ?_, ?_, ?_, ?_⟩ <;> kernel_rfl
abbrev zz49_ps : List Pk := [Pk.lst [Kd.int .u32]]
abbrev zz49_rs : List Pk := [Pk.own T_uint32 [Kd.int .u32]]
def zz49_q (s0 : List UInt32) (K : List UInt32 -> Prop) : Prop :=
 ∀ isnil : Bool, (isnil = true -> s0.length = 0) →
 IfB isnil
 (K ([] : List UInt32))
 (([] : List UInt32).length + s0.length <= 35184372088736 ∧
 K (([] : List UInt32) ++ s0))
noncomputable def tab_zz49 : Tab := ⟨[], []⟩
abbrev zz49_L (x : PkTs zz49_ps) (K : PkTs zz49_rs -> Prop) : Prop := zz49_q x.1 (fun r0 => K (r0, ()))
theorem zz49_eq : zz49_L = fun x K => PCode Tryd.prog tab_zz49 plan_zz49 (bodyOf Tryd.f87) (parS zz49_ps x) (PRet Tryd.prog Tryd.f87.results.toList fun a st => outP zz49_rs st a K) := by kernel_rfl
theorem zz49_fq : FnQ Tryd.prog f_zz49 zz49_ps zz49_rs zz49_L := (fnQ_of k_zz49 (tab := tab_zz49) ⟨trivial, trivial⟩ rfl).of_eq zz49_eq
noncomputable def ct_zz49 : Ct := ctVal zz49_ps zz49_rs zz49_L
theorem ct_zz49_ok : SoundCt Tryd.prog f_zz49 ct_zz49 := ctVal_sound zz49_fq
def pl_zz12_3 : PLoop := ⟨[(3, PK.row T_api_Segment [Kd.bool, Kd.lst [Kd.int .u32]]), (11, PK.int .i64)], [9, 10], []⟩
def plan_zz12 : PPlan := ⟨[(5, [0, 1, 2, 3, 4, 5, 6, 7, 8, 9], [17])], [(3, pl_zz12_3)], [], [], [], []⟩
theorem k_zz12 : Known Tryd.prog f_zz12 Tryd.f71 plan_zz12.plan (bodyOf Tryd.f71) := by refine ⟨Tryd.func71, ?_, ?_, ?_, ?_, ?_⟩ <;> kernel_rfl
abbrev zz12_ps : List Pk := [Pk.lst [Kd.bool, Kd.lst [Kd.int .u32]]]
abbrev zz12_rs : List Pk := [Pk.own T_api_Segment [Kd.bool, Kd.lst [Kd.int .u32]]]
def zz12_l3 (p0 : List (Bool × List UInt32)) (out3 : List (Bool × List UInt32)) (x11 : Int) (next3 : (List (Bool × List UInt32) × Int × Unit) -> Prop) (K : List (Bool × List UInt32) -> Prop) : Prop :=
 IfB (decide ((x11 : Int) < (p0.length : Int)))
 ((0 : Int) <= x11 ∧ AtN p0 x11.toNat fun x13 =>
 WfT ks_bool_lst_int_u32 x13 →
 (WfPs zz49_ps (x13.2, ()) →
 zz49_q x13.2 (fun x20 =>
 WfPs zz49_rs (x20, ()) →
 out3.length + ([(x13.1, x20)] : List (Bool × List UInt32)).length <= 4398046511008 ∧
 next3 ((out3 ++ ([(x13.1, x20)] : List (Bool × List UInt32))), (IntKind.wrap .i64 (x11 + 1)), ()))))
 (K out3)
def zz12_q (p0 : List (Bool × List UInt32)) (K : List (Bool × List UInt32) -> Prop) : Prop :=
 (0 : Int) <= 0 ∧ (0 : Int) <= (p0.length : Int) ∧ ((p0.length : Int) : Int) <= 1000000000 ∧
 LoopJ (List (Bool × List UInt32) × Int × Unit) ((List.replicate 0 ((false, ([] : List UInt32)) : Bool × List UInt32)), (0 : Int), ()) fun y next =>
 WfY pl_zz12_3.kinds y →
 zz12_l3 p0 y.1 y.2.1 next K
noncomputable def tab_zz12 : Tab := ⟨[(f_zz49, ct_zz49)], []⟩
abbrev zz12_L (x : PkTs zz12_ps) (K : PkTs zz12_rs -> Prop) : Prop := zz12_q x.1 (fun r0 => K (r0, ()))
theorem zz12_eq : zz12_L = fun x K => PCode Tryd.prog tab_zz12 plan_zz12 (bodyOf Tryd.f71) (parS zz12_ps x) (PRet Tryd.prog Tryd.f71.results.toList fun a st => outP zz12_rs st a K) := by kernel_rfl
theorem zz12_fq : FnQ Tryd.prog f_zz12 zz12_ps zz12_rs zz12_L := (fnQ_of k_zz12 (tab := tab_zz12) ⟨⟨ct_zz49_ok, trivial⟩, trivial⟩ rfl).of_eq zz12_eq
noncomputable def ct_zz12 : Ct := ctVal zz12_ps zz12_rs zz12_L
theorem ct_zz12_ok : SoundCt Tryd.prog f_zz12 ct_zz12 := ctVal_sound zz12_fq
def pl_zz23_3 : PLoop := ⟨[(1, PK.int .i64), (5, PK.row T_api_Segment [Kd.bool, Kd.lst [Kd.int .u32]]), (11, PK.int .i64)], [9, 10], []⟩
def plan_zz23 : PPlan := ⟨[], [(3, pl_zz23_3)], [], [], [], []⟩
theorem k_zz23 : Known Tryd.prog f_zz23 Tryd.f72 plan_zz23.plan (bodyOf Tryd.f72) := by refine ⟨Tryd.func72, ?_, ?_, ?_, ?_, ?_⟩ <;> kernel_rfl
abbrev zz23_ps : List Pk := [Pk.lst [Kd.bool, Kd.lst [Kd.int .u32]], Pk.int .i64]
abbrev zz23_rs : List Pk := [Pk.own T_api_Segment [Kd.bool, Kd.lst [Kd.int .u32]]]
def zz23_j0 (out5 : List (Bool × List UInt32)) (x14 : Bool × List UInt32) (x9 : List (Bool × List UInt32)) (x11 : Int) (next3 : (Int × List (Bool × List UInt32) × Int × Unit) -> Prop) (j0 : Int) (j3 : List UInt32) (K : List (Bool × List UInt32) -> Prop) : Prop :=
 out5.length + ([(x14.1, j3)] : List (Bool × List UInt32)).length <= 4398046511008 ∧
 next3 (j0, (out5 ++ ([(x14.1, j3)] : List (Bool × List UInt32))), (IntKind.wrap .i64 (x11 + 1)), ())
def zz23_l3 (x9 : List (Bool × List UInt32)) (n1_1 : Int) (out5 : List (Bool × List UInt32)) (x11 : Int) (next3 : (Int × List (Bool × List UInt32) × Int × Unit) -> Prop) (K : List (Bool × List UInt32) -> Prop) : Prop :=
 IfB (decide ((x11 : Int) < (x9.length : Int)))
 ((0 : Int) <= x11 ∧ x11 < (x9.length : Int) ∧
 AtN x9 x11.toNat fun x14 =>
 WfT ks_bool_lst_int_u32 x14 →
 IfB (decide ((n1_1 : Int) <= 0))
 (K out5)
 (IfB x14.1
 (zz23_j0 out5 x14 x9 x11 next3 (IntKind.wrap .i64 (n1_1 - 1)) x14.2 K)
 ((0 : Int) <= (min n1_1 (x14.2.length : Int)) ∧ (min n1_1 (x14.2.length : Int)) <= (x14.2.length : Int) ∧
 zz23_j0 out5 x14 x9 x11 next3 (IntKind.wrap .i64 (n1_1 - ((x14.2.take ((min n1_1 (x14.2.length : Int)).toNat)).length : Int))) (x14.2.take ((min n1_1 (x14.2.length : Int)).toNat)) K)))
 (K out5)
def zz23_q (p0 : List (Bool × List UInt32)) (n1 : Int) (K : List (Bool × List UInt32) -> Prop) : Prop :=
 (WfPs zz12_ps (p0, ()) →
 zz12_q p0 (fun x9 =>
 WfPs zz12_rs (x9, ()) →
 LoopJ (Int × List (Bool × List UInt32) × Int × Unit) (n1, ([] : List (Bool × List UInt32)), (0 : Int), ()) fun y next =>
 WfY pl_zz23_3.kinds y →
 zz23_l3 x9 y.1 y.2.1 y.2.2.1 next K))
noncomputable def tab_zz23 : Tab := ⟨[(f_zz12, ct_zz12)], []⟩
abbrev zz23_L (x : PkTs zz23_ps) (K : PkTs zz23_rs -> Prop) : Prop := zz23_q x.1 x.2.1 (fun r0 => K (r0, ()))
theorem zz23_eq : zz23_L = fun x K => PCode Tryd.prog tab_zz23 plan_zz23 (bodyOf Tryd.f72) (parS zz23_ps x) (PRet Tryd.prog Tryd.f72.results.toList fun a st => outP zz23_rs st a K) := by kernel_rfl
theorem zz23_fq : FnQ Tryd.prog f_zz23 zz23_ps zz23_rs zz23_L := (fnQ_of k_zz23 (tab := tab_zz23) ⟨⟨ct_zz12_ok, trivial⟩, trivial⟩ rfl).of_eq zz23_eq
noncomputable def ct_zz23 : Ct := ctVal zz23_ps zz23_rs zz23_L
theorem ct_zz23_ok : SoundCt Tryd.prog f_zz23 ct_zz23 := ctVal_sound zz23_fq
def plan_zz45_at_nil : PPlan := ⟨[], [], [25], [], [], []⟩
theorem k_zz45_at_nil : Known Tryd.prog f_zz45 Tryd.f88 plan_zz45_at_nil.plan (bodyOf Tryd.f88) := by refine ⟨Tryd.func88, ?_, ?_, ?_, ?_, ?_⟩ <;> kernel_rfl
abbrev zz45_at_nil_ps : List Pk := [Pk.nil, Pk.int .i64]
abbrev zz45_at_nil_rs : List Pk := [Pk.own T_uint32 [Kd.int .u32]]
def zz45_at_nil_q (n1 : Int) (K : List UInt32 -> Prop) : Prop :=
 IfB (decide ((n1 : Int) < 0))
 (False)
 (IfB (decide (((IntKind.wrap .i64 (n1 - (IntKind.wrap .i64 (0 - 0)))) : Int) > 0))
 ((0 : Int) <= 0 ∧ 0 <= (0 : Int) ∧
 (0 : Int) < (IntKind.wrap .i64 (n1 - (IntKind.wrap .i64 (0 - 0)))) ∧ (IntKind.wrap .i64 (n1 - (IntKind.wrap .i64 (0 - 0)))) <= 1000000000 ∧
 (0 : Int) <= 0 ∧ 0 <= ((List.replicate (IntKind.wrap .i64 (n1 - (IntKind.wrap .i64 (0 - 0)))).toNat ((ofI .u32 0) : UInt32)).length : Int) ∧
 K ((List.replicate (IntKind.wrap .i64 (n1 - (IntKind.wrap .i64 (0 - 0)))).toNat ((ofI .u32 0) : UInt32)).take 0))
 (K ([] : List UInt32)))
noncomputable def tab_zz45_at_nil : Tab := ⟨[], []⟩
abbrev zz45_at_nil_L (x : PkTs zz45_at_nil_ps) (K : PkTs zz45_at_nil_rs -> Prop) : Prop := zz45_at_nil_q x.2.1 (fun r0 => K (r0, ()))
theorem zz45_at_nil_eq : zz45_at_nil_L = fun x K => PCode Tryd.prog tab_zz45_at_nil plan_zz45_at_nil (bodyOf Tryd.f88) (parS zz45_at_nil_ps x) (PRet Tryd.prog Tryd.f88.results.toList fun a st => outP zz45_at_nil_rs st a K) := by kernel_rfl
theorem zz45_at_nil_fq : FnQ Tryd.prog f_zz45 zz45_at_nil_ps zz45_at_nil_rs zz45_at_nil_L := (fnQ_of k_zz45_at_nil (tab := tab_zz45_at_nil) ⟨trivial, trivial⟩ rfl).of_eq zz45_at_nil_eq
noncomputable def ct_zz45_at_nil : Ct := ctVal zz45_at_nil_ps zz45_at_nil_rs zz45_at_nil_L
theorem ct_zz45_at_nil_ok : SoundCt Tryd.prog f_zz45 ct_zz45_at_nil := ctVal_sound zz45_at_nil_fq
def pl_zz22_3 : PLoop := ⟨[(3, PK.int .i64), (11, PK.int .i64)], [0, 9, 10], []⟩
def pl_zz22_11 : PLoop := ⟨[(6, PK.row T_uint32 [Kd.int .u32]), (27, PK.int .i64)], [25, 26], []⟩
def plan_zz22 : PPlan := ⟨[], [(3, pl_zz22_3), (11, pl_zz22_11)], [], [], [], []⟩
theorem k_zz22 : Known Tryd.prog f_zz22 Tryd.f73 plan_zz22.plan (bodyOf Tryd.f73) := by refine ⟨Tryd.func73, ?_, ?_, ?_, ?_, ?_⟩ <;> kernel_rfl
abbrev zz22_ps : List Pk := [Pk.lst [Kd.lst [Kd.int .u32]]]
abbrev zz22_rs : List Pk := [Pk.own T_uint32 [Kd.int .u32]]
def zz22_l11 (slices0 : List (List UInt32)) (newslice6 : List UInt32) (x27 : Int) (next11 : (List UInt32 × Int × Unit) -> Prop) (K : List UInt32 -> Prop) : Prop :=
 IfB (decide ((x27 : Int) < (slices0.length : Int)))
 ((0 : Int) <= x27 ∧ AtN slices0 x27.toNat fun x29 =>
 WfT ks_lst_int_u32 x29 →
 newslice6.length + x29.length <= 35184372088736 ∧
 next11 ((newslice6 ++ x29), (IntKind.wrap .i64 (x27 + 1)), ()))
 (K newslice6)
def zz22_l3 (slices0 : List (List UInt32)) (size3 : Int) (x11 : Int) (next3 : (Int × Int × Unit) -> Prop) (K : List UInt32 -> Prop) : Prop :=
 IfB (decide ((x11 : Int) < (slices0.length : Int)))
 ((0 : Int) <= x11 ∧ AtN slices0 x11.toNat fun x13 =>
 WfT ks_lst_int_u32 x13 →
 IfB (decide (((IntKind.wrap .i64 (size3 + (x13.length : Int))) : Int) < 0))
 (False)
 (next3 ((IntKind.wrap .i64 (size3 + (x13.length : Int))), (IntKind.wrap .i64 (x11 + 1)), ())))
 ((WfPs zz45_at_nil_ps ((), size3, ()) →
 zz45_at_nil_q size3 (fun x24 =>
 WfPs zz45_at_nil_rs (x24, ()) →
 LoopJ (List UInt32 × Int × Unit) (x24, (0 : Int), ()) fun y next =>
 WfY pl_zz22_11.kinds y →
 zz22_l11 slices0 y.1 y.2.1 next K)))
def zz22_q (slices0 : List (List UInt32)) (K : List UInt32 -> Prop) : Prop :=
 LoopJ (Int × Int × Unit) ((0 : Int), (0 : Int), ()) fun y next =>
 WfY pl_zz22_3.kinds y →
 zz22_l3 slices0 y.1 y.2.1 next K
noncomputable def tab_zz22 : Tab := ⟨[(f_zz45, ct_zz45_at_nil)], []⟩
abbrev zz22_L (x : PkTs zz22_ps) (K : PkTs zz22_rs -> Prop) : Prop := zz22_q x.1 (fun r0 => K (r0, ()))
theorem zz22_eq : zz22_L = fun x K => PCode Tryd.prog tab_zz22 plan_zz22 (bodyOf Tryd.f73) (parS zz22_ps x) (PRet Tryd.prog Tryd.f73.results.toList fun a st => outP zz22_rs st a K) := by kernel_rfl
theorem zz22_fq : FnQ Tryd.prog f_zz22 zz22_ps zz22_rs zz22_L := (fnQ_of k_zz22 (tab := tab_zz22) ⟨⟨ct_zz45_at_nil_ok, trivial⟩, trivial⟩ rfl).of_eq zz22_eq
noncomputable def ct_zz22 : Ct := ctVal zz22_ps zz22_rs zz22_L
theorem ct_zz22_ok : SoundCt Tryd.prog f_zz22 ct_zz22 := ctVal_sound zz22_fq
def plan_zz33 : PPlan := ⟨[], [], [], [], [], []⟩
theorem k_zz33 : Known Tryd.prog f_zz33 Tryd.f50 plan_zz33.plan (bodyOf Tryd.f50) := by refine ⟨Tryd.func50, ?_, ?_, ?_, ?_, ?_⟩ <;> kernel_rfl
abbrev zz33_ps : List Pk := [Pk.lst [Kd.bool, Kd.lst [Kd.int .u32]], Pk.lst [Kd.bool, Kd.lst [Kd.int .u32]]]
abbrev zz33_rs : List Pk := [Pk.lst [Kd.bool, Kd.lst [Kd.int .u32]]]
def zz33_j1 (j0 : List (Bool × List UInt32)) (j1 : List (Bool × List UInt32)) (K : List (Bool × List UInt32) -> Prop) : Prop :=
 j0.length + j1.length <= 4398046511008 ∧
 K (j0 ++ j1)
def zz33_j0 (x20 : List (Bool × List UInt32)) (x22 : List (Bool × List UInt32)) (j3 : Bool) (K : List (Bool × List UInt32) -> Prop) : Prop :=
 IfB j3
 ((0 : Int) <= (IntKind.wrap .i64 ((x20.length : Int) - 1)) ∧ (IntKind.wrap .i64 ((x20.length : Int) - 1)) < (x20.length : Int) ∧
 AtN x20 ((IntKind.wrap .i64 ((x20.length : Int) - 1)).toNat) fun x54 =>
 WfT ks_bool_lst_int_u32 x54 →
 (0 : Int) <= 0 ∧ 0 < (x22.length : Int) ∧
 AtN x22 0 fun x58 =>
 WfT ks_bool_lst_int_u32 x58 →
 (WfPs zz22_ps (([x54.2, x58.2] : List (List UInt32)), ()) →
 zz22_q ([x54.2, x58.2] : List (List UInt32)) (fun x60 =>
 WfPs zz22_rs (x60, ()) →
 (0 : Int) <= (IntKind.wrap .i64 ((x20.length : Int) - 1)) ∧ (IntKind.wrap .i64 ((x20.length : Int) - 1)) < (x20.length : Int) ∧
 AtN x20 ((IntKind.wrap .i64 ((x20.length : Int) - 1)).toNat) fun el =>
 WfT ks_bool_lst_int_u32 el →
 (0 : Int) <= 1 ∧ 1 <= (x22.length : Int) ∧
 zz33_j1 (x20.set ((IntKind.wrap .i64 ((x20.length : Int) - 1)).toNat) (el.1, x60)) (x22.drop 1) K)))
 (zz33_j1 x20 x22 K)
def zz33_q (two0 : List (Bool × List UInt32)) (four1 : List (Bool × List UInt32)) (K : List (Bool × List UInt32) -> Prop) : Prop :=
 (WfPs zz17_ps (two0, ()) →
 zz17_q two0 (fun x10 =>
 WfPs zz17_rs (x10, ()) →
 (WfPs zz17_ps (four1, ()) →
 zz17_q four1 (fun x12 =>
 WfPs zz17_rs (x12, ()) →
 IfB (decide (((IntKind.wrap .i64 (x10 - x12)) : Int) < 0))
 ((WfPs zz12_ps (two0, ()) →
 zz12_q two0 (fun x17 =>
 WfPs zz12_rs (x17, ()) →
 K x17)))
 ((WfPs zz23_ps (two0, (IntKind.wrap .i64 (x10 - x12)), ()) →
 zz23_q two0 (IntKind.wrap .i64 (x10 - x12)) (fun x20 =>
 WfPs zz23_rs (x20, ()) →
 (WfPs zz12_ps (four1, ()) →
 zz12_q four1 (fun x22 =>
 WfPs zz12_rs (x22, ()) →
 IfB (decide (((IntKind.wrap .i64 ((x20.length : Int) - 1)) : Int) ≥ 0))
 (IfB (decide (((x22.length : Int) : Int) > 0))
 ((0 : Int) <= (IntKind.wrap .i64 ((x20.length : Int) - 1)) ∧ (IntKind.wrap .i64 ((x20.length : Int) - 1)) < (x20.length : Int) ∧
 AtN x20 ((IntKind.wrap .i64 ((x20.length : Int) - 1)).toNat) fun x38 =>
 WfT ks_bool_lst_int_u32 x38 →
 IfB (!x38.1)
 ((0 : Int) <= 0 ∧ 0 < (x22.length : Int) ∧
 AtN x22 0 fun x45 =>
 WfT ks_bool_lst_int_u32 x45 →
 zz33_j0 x20 x22 (!x45.1) K)
 (zz33_j0 x20 x22 false K))
 (zz33_j0 x20 x22 false K))
 (zz33_j0 x20 x22 false K))))))))))
noncomputable def tab_zz33 : Tab := ⟨[(f_zz17, ct_zz17), (f_zz12, ct_zz12), (f_zz23, ct_zz23), (f_zz22, ct_zz22)], []⟩
abbrev zz33_L (x : PkTs zz33_ps) (K : PkTs zz33_rs -> Prop) : Prop := zz33_q x.1 x.2.1 (fun r0 => K (r0, ()))
theorem zz33_eq : zz33_L = fun x K => PCode Tryd.prog tab_zz33 plan_zz33 (bodyOf Tryd.f50) (parS zz33_ps x) (PRet Tryd.prog Tryd.f50.results.toList fun a st => outP zz33_rs st a K) := by kernel_rfl
theorem zz33_fq : FnQ Tryd.prog f_zz33 zz33_ps zz33_rs zz33_L := (fnQ_of k_zz33 (tab := tab_zz33) ⟨⟨ct_zz17_ok, ct_zz12_ok, ct_zz23_ok, ct_zz22_ok, trivial⟩, trivial⟩ rfl).of_eq zz33_eq
def plan_zz40 : PPlan := ⟨[], [], [], [], [], []⟩
theorem k_zz40 : Known Tryd.prog f_zz40 Tryd.f26 plan_zz40.plan (bodyOf Tryd.f26) := by refine ⟨Tryd.func26, ?_, ?_, ?_, ?_, ?_⟩ <;> kernel_rfl
abbrev zz40_ps : List Pk := [Pk.lst [Kd.int .u8]]
abbrev zz40_rs : List Pk := [Pk.agg [Kd.int .u8, Kd.int .i64, Kd.lst [Kd.int .u8], Kd.int .i64], Pk.bool]
def zz40_j1  (K : (UInt8 × Int × List UInt8 × Int) -> Bool -> Prop) : Prop :=
 K ((ofI .u8 0), 0, ([] : List UInt8), 0) false
def zz40_j0  (K : (UInt8 × Int × List UInt8 × Int) -> Bool -> Prop) : Prop :=
 zz40_j1 K
def zz40_j2 (b0 : List UInt8) (j5 : Int) (j6 : Int) (K : (UInt8 × Int × List UInt8 × Int) -> Bool -> Prop) : Prop :=
 IfB (decide ((j6 : Int) <= (IntKind.wrap .i64 ((b0.length : Int) - j5))))
 ((0 : Int) <= 0 ∧ AtN b0 0 fun x37 =>
 WfT ks_int_u8 x37 →
 (0 : Int) <= 1 ∧ AtN b0 1 fun x41 =>
 WfT ks_int_u8 x41 →
 (0 : Int) <= (IntKind.wrap .i64 (j5 + j6)) ∧ (IntKind.wrap .i64 (j5 + j6)) <= (b0.length : Int) ∧
 (0 : Int) <= j5 ∧ j5 <= ((IntKind.wrap .i64 (j5 + j6)).toNat : Int) ∧
 K ((ofI .u8 (bitsAnd .u8 (x37.toNat : Int) 192)), (IntKind.wrap .i64 (x41.toNat : Int)), ((b0.take ((IntKind.wrap .i64 (j5 + j6)).toNat)).drop j5.toNat), (IntKind.wrap .i64 (j5 + j6))) true)
 (zz40_j1 K)
def zz40_q (b0 : List UInt8) (K : (UInt8 × Int × List UInt8 × Int) -> Bool -> Prop) : Prop :=
 IfB (decide (((b0.length : Int) : Int) < 3))
 (zz40_j0 K)
 ((0 : Int) <= 2 ∧ AtN b0 2 fun x11 =>
 WfT ks_int_u8 x11 →
 (0 : Int) <= 0 ∧ AtN b0 0 fun x15 =>
 WfT ks_int_u8 x15 →
 IfB (((bitsAnd .u8 (x15.toNat : Int) 16) : Int) != 0)
 (IfB (decide (((b0.length : Int) : Int) < 4))
 (zz40_j0 K)
 ((0 : Int) <= 8 ∧
 (0 : Int) <= 3 ∧ AtN b0 3 fun x26 =>
 WfT ks_int_u8 x26 →
 zz40_j2 b0 4 (bitsOr .i64 (IntKind.wrap .i64 ((IntKind.wrap .i64 (x11.toNat : Int)) * 256)) (IntKind.wrap .i64 (x26.toNat : Int))) K))
 (zz40_j2 b0 3 (IntKind.wrap .i64 (x11.toNat : Int)) K))
noncomputable def tab_zz40 : Tab := ⟨[], []⟩
abbrev zz40_L (x : PkTs zz40_ps) (K : PkTs zz40_rs -> Prop) : Prop := zz40_q x.1 (fun r0 r1 => K (r0, r1, ()))
theorem zz40_eq : zz40_L = fun x K => PCode Tryd.prog tab_zz40 plan_zz40 (bodyOf Tryd.f26) (parS zz40_ps x) (PRet Tryd.prog Tryd.f26.results.toList fun a st => outP zz40_rs st a K) := by kernel_rfl
theorem zz40_fq : FnQ Tryd.prog f_zz40 zz40_ps zz40_rs zz40_L := (fnQ_of k_zz40 (tab := tab_zz40) ⟨trivial, trivial⟩ rfl).of_eq zz40_eq
def plan_zz51 : PPlan := ⟨[], [], [], [], [], []⟩
theorem k_zz51 : Known Tryd.prog f_zz51 Tryd.f49 plan_zz51.plan (bodyOf Tryd.f49) := by refine ⟨Tryd.func49, ?_, ?_, ?_, ?_, ?_⟩ <;> kernel_rfl
abbrev zz51_ps : List Pk := [Pk.lst [Kd.int .u8]]
abbrev zz51_rs : List Pk := [Pk.int .u32]
def zz51_q (b0 : List UInt8) (K : Int -> Prop) : Prop :=
 (0 : Int) <= 0 ∧ AtN b0 0 fun x4 =>
 WfT ks_int_u8 x4 →
 (0 : Int) <= 24 ∧
 (0 : Int) <= 1 ∧ AtN b0 1 fun x9 =>
 WfT ks_int_u8 x9 →
 (0 : Int) <= 16 ∧
 (0 : Int) <= 2 ∧ AtN b0 2 fun x15 =>
 WfT ks_int_u8 x15 →
 (0 : Int) <= 8 ∧
 (0 : Int) <= 3 ∧ AtN b0 3 fun x21 =>
 WfT ks_int_u8 x21 →
 K (bitsOr .u32 (bitsOr .u32 (bitsOr .u32 (IntKind.wrap .u32 ((IntKind.wrap .u32 (x4.toNat : Int)) * 16777216)) (IntKind.wrap .u32 ((IntKind.wrap .u32 (x9.toNat : Int)) * 65536))) (IntKind.wrap .u32 ((IntKind.wrap .u32 (x15.toNat : Int)) * 256))) (IntKind.wrap .u32 (x21.toNat : Int)))
noncomputable def tab_zz51 : Tab := ⟨[], []⟩
abbrev zz51_L (x : PkTs zz51_ps) (K : PkTs zz51_rs -> Prop) : Prop := zz51_q x.1 (fun r0 => K (r0, ()))
theorem zz51_eq : zz51_L = fun x K => PCode Tryd.prog tab_zz51 plan_zz51 (bodyOf Tryd.f49) (parS zz51_ps x) (PRet Tryd.prog Tryd.f49.results.toList fun a st => outP zz51_rs st a K) := by kernel_rfl
theorem zz51_fq : FnQ Tryd.prog f_zz51 zz51_ps zz51_rs zz51_L := (fnQ_of k_zz51 (tab := tab_zz51) ⟨trivial, trivial⟩ rfl).of_eq zz51_eq
def plan_zz54 : PPlan := ⟨[], [], [], [], [], []⟩
theorem k_zz54 : Known Tryd.prog f_zz54 Tryd.f29 plan_zz54.plan (bodyOf Tryd.f29) := by refine ⟨Tryd.func29, ?_, ?_, ?_, ?_, ?_⟩ <;> kernel_rfl
abbrev zz54_ps : List Pk := [Pk.lst [Kd.int .u8]]
abbrev zz54_rs : List Pk := [Pk.lst [Kd.int .u8]]
def zz54_q (s0 : List UInt8) (K : List UInt8 -> Prop) : Prop :=
 ∀ isnil : Bool, (isnil = true -> s0.length = 0) →
 IfB isnil
 (K ([] : List UInt8))
 (([] : List UInt8).length + s0.length <= 140737488355232 ∧
 K (([] : List UInt8) ++ s0))
noncomputable def tab_zz54 : Tab := ⟨[], []⟩
abbrev zz54_L (x : PkTs zz54_ps) (K : PkTs zz54_rs -> Prop) : Prop := zz54_q x.1 (fun r0 => K (r0, ()))
theorem zz54_eq : zz54_L = fun x K => PCode Tryd.prog tab_zz54 plan_zz54 (bodyOf Tryd.f29) (parS zz54_ps x) (PRet Tryd.prog Tryd.f29.results.toList fun a st => outP zz54_rs st a K) := by kernel_rfl
theorem zz54_fq : FnQ Tryd.prog f_zz54 zz54_ps zz54_rs zz54_L := (fnQ_of k_zz54 (tab := tab_zz54) ⟨trivial, trivial⟩ rfl).of_eq zz54_eq
end Go.Proofs.YtboagabgpcghcaaDoor
