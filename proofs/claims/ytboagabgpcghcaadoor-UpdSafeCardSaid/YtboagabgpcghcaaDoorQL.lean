/-
  SOME FUNCTIONS OVER PLAIN DATA: printed by a program of ours over this translation.
-/
import Derived.Test.YtboagabgpcghcaaDoorNum
import Derived.Test.YtboagabgpcghcaaDoorRB
set_option linter.all false
set_option maxRecDepth 100000
set_option maxHeartbeats 4000000
namespace Go.Proofs.YtboagabgpcghcaaDoor
open Go.Sh
abbrev TyL1 := Int × List (Bool × List UInt32) × UInt32 × Bool × UInt32 × Bool × UInt32 × Bool × Bool × UInt32 × UInt32 × List UInt32 × List (Int × List UInt8) × Int
abbrev ks_int_u32_int_i64 : List Kd := [Kd.int .u32, Kd.int .i64]
def plan_zz35 : PPlan := ⟨[], [], [], [], [], []⟩
theorem k_zz35 : Known Tryd.prog f_zz35 Tryd.f25 plan_zz35.plan (bodyOf Tryd.f25) := by refine ⟨Tryd.func25, ?_, ?_, ?_, ?_, ?_⟩ <;> kernel_rfl
abbrev zz35_ps : List Pk := [Pk.lst [Kd.int .u8]]
abbrev zz35_rs : List Pk := [Pk.int .i64]
def zz35_q (b0 : List UInt8) (K : Int -> Prop) : Prop :=
 (0 : Int) <= 0 ∧ AtN b0 0 fun x4 =>
 WfT ks_int_u8 x4 →
 (0 : Int) <= 8 ∧
 (0 : Int) <= 1 ∧ AtN b0 1 fun x9 =>
 WfT ks_int_u8 x9 →
 K (bitsOr .i64 (IntKind.wrap .i64 ((IntKind.wrap .i64 (x4.toNat : Int)) * 256)) (IntKind.wrap .i64 (x9.toNat : Int)))
noncomputable def tab_zz35 : Tab := ⟨[], []⟩
abbrev zz35_L (x : PkTs zz35_ps) (K : PkTs zz35_rs -> Prop) : Prop := zz35_q x.1 (fun r0 => K (r0, ()))
theorem zz35_eq : zz35_L = fun x K => PCode Tryd.prog tab_zz35 plan_zz35 (bodyOf Tryd.f25) (parS zz35_ps x) (PRet Tryd.prog Tryd.f25.results.toList fun a st => outP zz35_rs st a K) := by kernel_rfl
theorem zz35_fq : FnQ Tryd.prog f_zz35 zz35_ps zz35_rs zz35_L := (fnQ_of k_zz35 (tab := tab_zz35) ⟨trivial, trivial⟩ rfl).of_eq zz35_eq
noncomputable def ct_zz35 : Ct := ctRd zz35_ps zz35_rs zz35_L
theorem ct_zz35_ok : SoundCt Tryd.prog f_zz35 ct_zz35 := ctRd_sound zz35_fq
def plan_zz24 : PPlan := ⟨[], [], [], [], [], []⟩
theorem k_zz24 : Known Tryd.prog f_zz24 Tryd.f14 plan_zz24.plan (bodyOf Tryd.f14) := by refine ⟨Tryd.func14, ?_, ?_, ?_, ?_, ?_⟩ <;> kernel_rfl
abbrev zz24_ps : List Pk := [Pk.lst [Kd.int .u8]]
abbrev zz24_rs : List Pk := [Pk.lst [Kd.int .u8], Pk.lst [Kd.int .u8], Pk.bool]
def zz24_j0 (b0 : List UInt8) (j1 : Bool) (K : List UInt8 -> List UInt8 -> Bool -> Prop) : Prop :=
 IfB j1
 (K ([] : List UInt8) ([] : List UInt8) false)
 ((WfPs zz35_ps (b0, ()) →
 zz35_q b0 (fun x18 =>
 WfPs zz35_rs (x18, ()) →
 (0 : Int) <= (IntKind.wrap .i64 (2 + x18)) ∧ (IntKind.wrap .i64 (2 + x18)) <= (b0.length : Int) ∧
 (0 : Int) <= 2 ∧ 2 <= ((IntKind.wrap .i64 (2 + x18)).toNat : Int) ∧
 (0 : Int) <= (IntKind.wrap .i64 (2 + x18)) ∧ (IntKind.wrap .i64 (2 + x18)) <= (b0.length : Int) ∧
 K ((b0.take ((IntKind.wrap .i64 (2 + x18)).toNat)).drop 2) (b0.drop ((IntKind.wrap .i64 (2 + x18)).toNat)) true)))
def zz24_q (b0 : List UInt8) (K : List UInt8 -> List UInt8 -> Bool -> Prop) : Prop :=
 IfB (decide (((b0.length : Int) : Int) < 2))
 (zz24_j0 b0 true K)
 ((WfPs zz35_ps (b0, ()) →
 zz35_q b0 (fun x11 =>
 WfPs zz35_rs (x11, ()) →
 zz24_j0 b0 (decide ((x11 : Int) > (IntKind.wrap .i64 ((b0.length : Int) - 2)))) K)))
noncomputable def tab_zz24 : Tab := ⟨[(f_zz35, ct_zz35)], []⟩
abbrev zz24_L (x : PkTs zz24_ps) (K : PkTs zz24_rs -> Prop) : Prop := zz24_q x.1 (fun r0 r1 r2 => K (r0, r1, r2, ()))
theorem zz24_eq : zz24_L = fun x K => PCode Tryd.prog tab_zz24 plan_zz24 (bodyOf Tryd.f14) (parS zz24_ps x) (PRet Tryd.prog Tryd.f14.results.toList fun a st => outP zz24_rs st a K) := by kernel_rfl
theorem zz24_fq : FnQ Tryd.prog f_zz24 zz24_ps zz24_rs zz24_L := (fnQ_of k_zz24 (tab := tab_zz24) ⟨⟨ct_zz35_ok, trivial⟩, trivial⟩ rfl).of_eq zz24_eq
noncomputable def ct_zz24 : Ct := ctVal zz24_ps zz24_rs zz24_L
theorem ct_zz24_ok : SoundCt Tryd.prog f_zz24 ct_zz24 := ctVal_sound zz24_fq
def plan_zz31 : PPlan := ⟨[], [], [], [], [], []⟩
theorem k_zz31 : Known Tryd.prog f_zz31 Tryd.f15 plan_zz31.plan (bodyOf Tryd.f15) := by refine ⟨Tryd.func15, ?_, ?_, ?_, ?_, ?_⟩ <;> kernel_rfl
abbrev zz31_ps : List Pk := [Pk.int .i64]
abbrev zz31_rs : List Pk := [Pk.agg [Kd.lst [Kd.int .u32, Kd.int .i64], Kd.lst [Kd.int .u32, Kd.int .i64], Kd.int .i64, Kd.lst [Kd.bool, Kd.lst [Kd.int .u32]], Kd.int .u32, Kd.bool, Kd.int .u32, Kd.bool, Kd.int .u32, Kd.bool, Kd.bool, Kd.int .u32, Kd.int .u32, Kd.lst [Kd.int .u32], Kd.lst [Kd.int .i64, Kd.lst [Kd.int .u8]], Kd.int .i64], Pk.agg [Kd.int .i64, Kd.int .i64, Kd.lst [Kd.int .u8]], Pk.bool]
def zz31_q (sub0 : Int) (K : List (UInt32 × Int) × List (UInt32 × Int) × TyL1 -> (Int × Int × List UInt8) -> Bool -> Prop) : Prop :=
 K (([] : List (UInt32 × Int)), ([] : List (UInt32 × Int)), 0, ([] : List (Bool × List UInt32)), (ofI .u32 0), false, (ofI .u32 0), false, (ofI .u32 0), false, false, (ofI .u32 0), (ofI .u32 0), ([] : List UInt32), ([] : List (Int × List UInt8)), 0) (3, sub0, ([] : List UInt8)) false
noncomputable def tab_zz31 : Tab := ⟨[], []⟩
abbrev zz31_L (x : PkTs zz31_ps) (K : PkTs zz31_rs -> Prop) : Prop := zz31_q x.1 (fun r0 r1 r2 => K (r0, r1, r2, ()))
theorem zz31_eq : zz31_L = fun x K => PCode Tryd.prog tab_zz31 plan_zz31 (bodyOf Tryd.f15) (parS zz31_ps x) (PRet Tryd.prog Tryd.f15.results.toList fun a st => outP zz31_rs st a K) := by kernel_rfl
theorem zz31_fq : FnQ Tryd.prog f_zz31 zz31_ps zz31_rs zz31_L := (fnQ_of k_zz31 (tab := tab_zz31) ⟨trivial, trivial⟩ rfl).of_eq zz31_eq
noncomputable def ct_zz31 : Ct := ctVal zz31_ps zz31_rs zz31_L
theorem ct_zz31_ok : SoundCt Tryd.prog f_zz31 ct_zz31 := ctVal_sound zz31_fq
def plan_zz18 : PPlan := ⟨[], [], [], [], [], []⟩
theorem k_zz18 : Known Tryd.prog f_zz18 Tryd.f18 plan_zz18.plan (bodyOf Tryd.f18) := by refine ⟨Tryd.func18, ?_, ?_, ?_, ?_, ?_⟩ <;> kernel_rfl
abbrev zz18_ps : List Pk := [Pk.int .u32, Pk.int .i64]
abbrev zz18_rs : List Pk := [Pk.int .u32]
def zz18_q (a0 : Int) (n1 : Int) (K : Int -> Prop) : Prop :=
 (0 : Int) <= (IntKind.wrap .i64 (32 - n1)) ∧
 K (bitsAndNot .u32 a0 (IntKind.wrap .u32 (IntKind.wrap .u64 ((IntKind.wrap .u64 (1 * (2 ^ (min ((IntKind.wrap .i64 (32 - n1)) : Int).toNat (IntKind.bits .u64))))) - 1))))
noncomputable def tab_zz18 : Tab := ⟨[], []⟩
abbrev zz18_L (x : PkTs zz18_ps) (K : PkTs zz18_rs -> Prop) : Prop := zz18_q x.1 x.2.1 (fun r0 => K (r0, ()))
theorem zz18_eq : zz18_L = fun x K => PCode Tryd.prog tab_zz18 plan_zz18 (bodyOf Tryd.f18) (parS zz18_ps x) (PRet Tryd.prog Tryd.f18.results.toList fun a st => outP zz18_rs st a K) := by kernel_rfl
theorem zz18_fq : FnQ Tryd.prog f_zz18 zz18_ps zz18_rs zz18_L := (fnQ_of k_zz18 (tab := tab_zz18) ⟨trivial, trivial⟩ rfl).of_eq zz18_eq
noncomputable def ct_zz18 : Ct := ctRd zz18_ps zz18_rs zz18_L
theorem ct_zz18_ok : SoundCt Tryd.prog f_zz18 ct_zz18 := ctRd_sound zz18_fq
def plan_zz19 : PPlan := ⟨[], [], [], [], [], []⟩
theorem k_zz19 : Known Tryd.prog f_zz19 Tryd.f32 plan_zz19.plan (bodyOf Tryd.f32) := by refine ⟨Tryd.func32, ?_, ?_, ?_, ?_, ?_⟩ <;> kernel_rfl
abbrev zz19_ps : List Pk := [Pk.int .i64]
abbrev zz19_rs : List Pk := [Pk.int .i64]
def zz19_q (n0 : Int) (K : Int -> Prop) : Prop :=
 (8 : Int) ≠ 0 ∧
 K (IntKind.wrap .i64 (Int.tdiv (IntKind.wrap .i64 ((IntKind.wrap .i64 (n0 + 8)) - 1)) 8))
noncomputable def tab_zz19 : Tab := ⟨[], []⟩
abbrev zz19_L (x : PkTs zz19_ps) (K : PkTs zz19_rs -> Prop) : Prop := zz19_q x.1 (fun r0 => K (r0, ()))
theorem zz19_eq : zz19_L = fun x K => PCode Tryd.prog tab_zz19 plan_zz19 (bodyOf Tryd.f32) (parS zz19_ps x) (PRet Tryd.prog Tryd.f32.results.toList fun a st => outP zz19_rs st a K) := by kernel_rfl
theorem zz19_fq : FnQ Tryd.prog f_zz19 zz19_ps zz19_rs zz19_L := (fnQ_of k_zz19 (tab := tab_zz19) ⟨trivial, trivial⟩ rfl).of_eq zz19_eq
noncomputable def ct_zz19 : Ct := ctRd zz19_ps zz19_rs zz19_L
theorem ct_zz19_ok : SoundCt Tryd.prog f_zz19 ct_zz19 := ctRd_sound zz19_fq
def plan_zz65 : PPlan := ⟨[], [], [], [], [], []⟩
theorem k_zz65 : Known Tryd.prog f_zz65 Tryd.f31 plan_zz65.plan (bodyOf Tryd.f31) := by refine ⟨Tryd.func31, ?_, ?_, ?_, ?_, ?_⟩ <;> kernel_rfl
noncomputable def tab_zz65 : Tab := ⟨[], []⟩
noncomputable def ct_zz65 : Ct := ctInl Tryd.prog tab_zz65 plan_zz65 (bodyOf Tryd.f31) Tryd.f31.ntmps Tryd.f31.results.toList
theorem ct_zz65_ok : SoundCt Tryd.prog f_zz65 ct_zz65 := ctInl_sound k_zz65 ⟨trivial, trivial⟩
def pl_upd_all_4000003 : PLoop := ⟨[], [2, 3, 4], [(2, [PK.row T_api_Prefix [Kd.int .u32, Kd.int .i64]]), (3, [PK.bool]), (4, [PK.row T_api_Prefix [Kd.int .u32, Kd.int .i64]])]⟩
def plan_upd_all : PPlan := ⟨[], [(4000003, pl_upd_all_4000003)], [], [], [], []⟩
theorem k_upd_all : Known Tryd.prog f_upd_all Tryd.f17 plan_upd_all.plan (bodyOf Tryd.f17) := by refine ⟨Tryd.func17, ?_, ?_, ?_, ?_, ?_⟩ <;> kernel_rfl
abbrev upd_all_ps : List Pk := [Pk.lst [Kd.int .u8]]
abbrev upd_all_rs : List Pk := [Pk.own T_api_Prefix [Kd.int .u32, Kd.int .i64], Pk.bool]
def upd_all_e4000003 (c0 : List (UInt32 × Int)) (c0_1 : Bool) (c0_2 : List (UInt32 × Int)) (K : List (UInt32 × Int) -> Bool -> Prop) : Prop :=
 K c0_2 true
def upd_all_l4000003 (c0_3 : List (UInt32 × Int)) (c0_4 : Bool) (c0_5 : List (UInt32 × Int)) (x9 : UInt32 × Int) (x10 : Bool) (next4000003 : (List (UInt32 × Int) × Bool × List (UInt32 × Int) × Unit) -> Prop) (K : List (UInt32 × Int) -> Bool -> Prop) : Prop :=
 IfB (!x10)
 (K ([] : List (UInt32 × Int)) false)
 (c0_5.length + ([((ofI .u32 (x9.1.toNat : Int)), x9.2)] : List (UInt32 × Int)).length <= 8796093022112 ∧
 next4000003 (c0_3, c0_4, (c0_5 ++ ([((ofI .u32 (x9.1.toNat : Int)), x9.2)] : List (UInt32 × Int))), ()))
def upd_all_q (b0 : List UInt8) (K : List (UInt32 × Int) -> Bool -> Prop) : Prop :=
 it_prefixes.pre (b0, ()) ∧
 EachJ (fun (y : (List (UInt32 × Int) × Bool × List (UInt32 × Int) × Unit)) => WfY pl_upd_all_4000003.kinds y -> upd_all_e4000003 y.1 y.2.1 y.2.2.1 K)
 (fun (y : (List (UInt32 × Int) × Bool × List (UInt32 × Int) × Unit)) (x : ((UInt32 × Int) × Bool × Unit)) (next : (List (UInt32 × Int) × Bool × List (UInt32 × Int) × Unit) -> Prop) => WfY pl_upd_all_4000003.kinds y -> WfPs it_prefixes.ps x -> upd_all_l4000003 y.1 y.2.1 y.2.2.1 x.1 x.2.1 next K) (it_prefixes.xs (b0, ())) (([] : List (UInt32 × Int)), false, ([] : List (UInt32 × Int)), ())
noncomputable def tab_upd_all : Tab := ⟨[(f_zz65, ct_zz65)], [(f_zz55, it_prefixes)]⟩
abbrev upd_all_L (x : PkTs upd_all_ps) (K : PkTs upd_all_rs -> Prop) : Prop := upd_all_q x.1 (fun r0 r1 => K (r0, r1, ()))
theorem upd_all_eq : upd_all_L = fun x K => PCode Tryd.prog tab_upd_all plan_upd_all (bodyOf Tryd.f17) (parS upd_all_ps x) (PRet Tryd.prog Tryd.f17.results.toList fun a st => outP upd_all_rs st a K) := by kernel_rfl
theorem upd_all_fq : FnQ Tryd.prog f_upd_all upd_all_ps upd_all_rs upd_all_L := (fnQ_of k_upd_all (tab := tab_upd_all) ⟨⟨ct_zz65_ok, trivial⟩, ⟨it_prefixes_ok, trivial⟩⟩ rfl).of_eq upd_all_eq
noncomputable def ct_upd_all : Ct := ctVal upd_all_ps upd_all_rs upd_all_L
theorem ct_upd_all_ok : SoundCt Tryd.prog f_upd_all ct_upd_all := ctVal_sound upd_all_fq
def plan_zz11 : PPlan := ⟨[(9, [0, 1, 2, 3, 4], [56]), (18, [0, 1, 2, 3, 4, 5], [91])], [], [], [(9, [4]), (18, [15])], [], []⟩
theorem k_zz11 : Known Tryd.prog f_zz11 Tryd.f6 plan_zz11.plan (bodyOf Tryd.f6) := by refine ⟨Tryd.func6, ?_, ?_, ?_, ?_, ?_⟩ <;> kernel_rfl
abbrev zz11_ps : List Pk := [Pk.lst [Kd.int .u8], Pk.bool]
abbrev zz11_rs : List Pk := [Pk.agg [Kd.lst [Kd.int .u32, Kd.int .i64], Kd.lst [Kd.int .u32, Kd.int .i64], Kd.int .i64, Kd.lst [Kd.bool, Kd.lst [Kd.int .u32]], Kd.int .u32, Kd.bool, Kd.int .u32, Kd.bool, Kd.int .u32, Kd.bool, Kd.bool, Kd.int .u32, Kd.int .u32, Kd.lst [Kd.int .u32], Kd.lst [Kd.int .i64, Kd.lst [Kd.int .u8]], Kd.int .i64], Pk.agg [Kd.int .i64, Kd.int .i64, Kd.lst [Kd.int .u8]], Pk.bool]
def zz11_j1 (x49r1 : Int) (j20 : List (UInt32 × Int)) (j21 : Int) (j22 : List (Bool × List UInt32)) (j23 : Int) (j24 : Bool) (j25 : Int) (j26 : Bool) (j27 : Int) (j28 : Bool) (j29 : Bool) (j30 : Int) (j31 : Int) (j32 : List UInt32) (j33 : List (Int × List UInt8)) (j35 : List (UInt32 × Int)) (K : List (UInt32 × Int) × List (UInt32 × Int) × TyL1 -> (Int × Int × List UInt8) -> Bool -> Prop) : Prop :=
 K (j35, j20, j21, j22, (ofI .u32 j23), j24, (ofI .u32 j25), j26, (ofI .u32 j27), j28, j29, (ofI .u32 j30), (ofI .u32 j31), j32, j33, x49r1) (0, 0, ([] : List UInt8)) true
def zz11_j0 (x49r0 : Int × List (Bool × List UInt32) × UInt32 × Bool × UInt32 × Bool × UInt32 × Bool × Bool × UInt32 × UInt32 × List UInt32 × List (Int × List UInt8)) (x49r1 : Int) (x61r0 : List (UInt32 × Int)) (x66r0 : List (UInt32 × Int)) (j51 : Bool) (K : List (UInt32 × Int) × List (UInt32 × Int) × TyL1 -> (Int × Int × List UInt8) -> Bool -> Prop) : Prop :=
 IfB j51
 ((WfPs zz31_ps ((10 : Int), ()) →
 zz31_q (10 : Int) (fun x76r0 x76r1 x76r2 =>
 WfPs zz31_rs (x76r0, x76r1, x76r2, ()) →
 K (x76r0.1, x76r0.2.1, x76r0.2.2.1, x76r0.2.2.2.1, (ofI .u32 (x76r0.2.2.2.2.1.toNat : Int)), x76r0.2.2.2.2.2.1, (ofI .u32 (x76r0.2.2.2.2.2.2.1.toNat : Int)), x76r0.2.2.2.2.2.2.2.1, (ofI .u32 (x76r0.2.2.2.2.2.2.2.2.1.toNat : Int)), x76r0.2.2.2.2.2.2.2.2.2.1, x76r0.2.2.2.2.2.2.2.2.2.2.1, (ofI .u32 (x76r0.2.2.2.2.2.2.2.2.2.2.2.1.toNat : Int)), (ofI .u32 (x76r0.2.2.2.2.2.2.2.2.2.2.2.2.1.toNat : Int)), x76r0.2.2.2.2.2.2.2.2.2.2.2.2.2.1, x76r0.2.2.2.2.2.2.2.2.2.2.2.2.2.2.1, x76r0.2.2.2.2.2.2.2.2.2.2.2.2.2.2.2) x76r1 x76r2)))
 (IfB ((x49r1 : Int) == 2)
 (x61r0.length + x66r0.length <= 8796093022112 ∧
 zz11_j1 x49r1 ([] : List (UInt32 × Int)) 0 ([] : List (Bool × List UInt32)) 0 false 0 false 0 false false 0 0 ([] : List UInt32) ([] : List (Int × List UInt8)) (x61r0 ++ x66r0) K)
 (IfB (decide (((x66r0.length : Int) : Int) > 0))
 (zz11_j1 x49r1 x66r0 x49r0.1 x49r0.2.1 (x49r0.2.2.1.toNat : Int) x49r0.2.2.2.1 (x49r0.2.2.2.2.1.toNat : Int) x49r0.2.2.2.2.2.1 (x49r0.2.2.2.2.2.2.1.toNat : Int) x49r0.2.2.2.2.2.2.2.1 x49r0.2.2.2.2.2.2.2.2.1 (x49r0.2.2.2.2.2.2.2.2.2.1.toNat : Int) (x49r0.2.2.2.2.2.2.2.2.2.2.1.toNat : Int) x49r0.2.2.2.2.2.2.2.2.2.2.2.1 x49r0.2.2.2.2.2.2.2.2.2.2.2.2 x61r0 K)
 (zz11_j1 x49r1 ([] : List (UInt32 × Int)) 0 ([] : List (Bool × List UInt32)) 0 false 0 false 0 false false 0 0 ([] : List UInt32) ([] : List (Int × List UInt8)) x61r0 K)))
def zz11_q (b0 : List UInt8) (four1 : Bool) (K : List (UInt32 × Int) × List (UInt32 × Int) × TyL1 -> (Int × Int × List UInt8) -> Bool -> Prop) : Prop :=
 (WfPs zz24_ps (b0, ()) →
 zz24_q b0 (fun x21r0 x21r1 x21r2 =>
 WfPs zz24_rs (x21r0, x21r1, x21r2, ()) →
 IfB (!x21r2)
 ((WfPs zz31_ps ((1 : Int), ()) →
 zz31_q (1 : Int) (fun x27r0 x27r1 x27r2 =>
 WfPs zz31_rs (x27r0, x27r1, x27r2, ()) →
 K (x27r0.1, x27r0.2.1, x27r0.2.2.1, x27r0.2.2.2.1, (ofI .u32 (x27r0.2.2.2.2.1.toNat : Int)), x27r0.2.2.2.2.2.1, (ofI .u32 (x27r0.2.2.2.2.2.2.1.toNat : Int)), x27r0.2.2.2.2.2.2.2.1, (ofI .u32 (x27r0.2.2.2.2.2.2.2.2.1.toNat : Int)), x27r0.2.2.2.2.2.2.2.2.2.1, x27r0.2.2.2.2.2.2.2.2.2.2.1, (ofI .u32 (x27r0.2.2.2.2.2.2.2.2.2.2.2.1.toNat : Int)), (ofI .u32 (x27r0.2.2.2.2.2.2.2.2.2.2.2.2.1.toNat : Int)), x27r0.2.2.2.2.2.2.2.2.2.2.2.2.2.1, x27r0.2.2.2.2.2.2.2.2.2.2.2.2.2.2.1, x27r0.2.2.2.2.2.2.2.2.2.2.2.2.2.2.2) x27r1 x27r2)))
 ((WfPs zz24_ps (x21r1, ()) →
 zz24_q x21r1 (fun x33r0 x33r1 x33r2 =>
 WfPs zz24_rs (x33r0, x33r1, x33r2, ()) →
 IfB (!x33r2)
 ((WfPs zz31_ps ((1 : Int), ()) →
 zz31_q (1 : Int) (fun x39r0 x39r1 x39r2 =>
 WfPs zz31_rs (x39r0, x39r1, x39r2, ()) →
 K (x39r0.1, x39r0.2.1, x39r0.2.2.1, x39r0.2.2.2.1, (ofI .u32 (x39r0.2.2.2.2.1.toNat : Int)), x39r0.2.2.2.2.2.1, (ofI .u32 (x39r0.2.2.2.2.2.2.1.toNat : Int)), x39r0.2.2.2.2.2.2.2.1, (ofI .u32 (x39r0.2.2.2.2.2.2.2.2.1.toNat : Int)), x39r0.2.2.2.2.2.2.2.2.2.1, x39r0.2.2.2.2.2.2.2.2.2.2.1, (ofI .u32 (x39r0.2.2.2.2.2.2.2.2.2.2.2.1.toNat : Int)), (ofI .u32 (x39r0.2.2.2.2.2.2.2.2.2.2.2.2.1.toNat : Int)), x39r0.2.2.2.2.2.2.2.2.2.2.2.2.2.1, x39r0.2.2.2.2.2.2.2.2.2.2.2.2.2.2.1, x39r0.2.2.2.2.2.2.2.2.2.2.2.2.2.2.2) x39r1 x39r2)))
 ((WfPs zz16_ps (x33r0, four1, (decide (((x33r1.length : Int) : Int) > 0)), ()) →
 zz16_q x33r0 four1 (decide (((x33r1.length : Int) : Int) > 0)) (fun x49r0 x49r1 x49r2 =>
 WfPs zz16_rs (x49r0, x49r1, x49r2, ()) →
 IfB ((x49r1 : Int) == 3)
 (K (([] : List (UInt32 × Int)), ([] : List (UInt32 × Int)), 0, ([] : List (Bool × List UInt32)), (ofI .u32 0), false, (ofI .u32 0), false, (ofI .u32 0), false, false, (ofI .u32 0), (ofI .u32 0), ([] : List UInt32), ([] : List (Int × List UInt8)), 0) x49r2 false)
 ((WfPs upd_all_ps (x21r0, ()) →
 upd_all_q x21r0 (fun x61r0 x61r1 =>
 WfPs upd_all_rs (x61r0, x61r1, ()) →
 (WfPs upd_all_ps (x33r1, ()) →
 upd_all_q x33r1 (fun x66r0 x66r1 =>
 WfPs upd_all_rs (x66r0, x66r1, ()) →
 IfB (!x61r1)
 (zz11_j0 x49r0 x49r1 x61r0 x66r0 true K)
 (zz11_j0 x49r0 x49r1 x61r0 x66r0 (!x66r1) K))))))))))))))
noncomputable def tab_zz11 : Tab := ⟨[(f_zz24, ct_zz24), (f_zz31, ct_zz31), (f_zz16, ct_zz16), (f_upd_all, ct_upd_all)], []⟩
abbrev zz11_L (x : PkTs zz11_ps) (K : PkTs zz11_rs -> Prop) : Prop := zz11_q x.1 x.2.1 (fun r0 r1 r2 => K (r0, r1, r2, ()))
theorem zz11_eq : zz11_L = fun x K => PCode Tryd.prog tab_zz11 plan_zz11 (bodyOf Tryd.f6) (parS zz11_ps x) (PRet Tryd.prog Tryd.f6.results.toList fun a st => outP zz11_rs st a K) := by kernel_rfl
theorem zz11_fq : FnQ Tryd.prog f_zz11 zz11_ps zz11_rs zz11_L := (fnQ_of k_zz11 (tab := tab_zz11) ⟨⟨ct_zz24_ok, ct_zz31_ok, ct_zz16_ok, ct_upd_all_ok, trivial⟩, trivial⟩ rfl).of_eq zz11_eq
noncomputable def ct_zz11 : Ct := ctVal zz11_ps zz11_rs zz11_L
theorem ct_zz11_ok : SoundCt Tryd.prog f_zz11 ct_zz11 := ctVal_sound zz11_fq
def plan_zz21 : PPlan := ⟨[(1, [0, 1, 2, 3, 4, 5, 6, 7, 8, 9, 10, 11, 12, 14, 15, 13, 16, 17, 18], [18])], [], [], [], [], []⟩
theorem k_zz21 : Known Tryd.prog f_zz21 Tryd.f8 plan_zz21.plan (bodyOf Tryd.f8) := by refine ⟨Tryd.func8, ?_, ?_, ?_, ?_, ?_⟩ <;> kernel_rfl
abbrev zz21_ps : List Pk := [Pk.agg [Kd.int .u32, Kd.int .i64]]
abbrev zz21_rs : List Pk := [Pk.bool]
def zz21_q (p0 : UInt32 × Int) (K : Bool -> Prop) : Prop :=
 IfB (decide ((p0.2 : Int) ≥ 0))
 (IfB (decide ((p0.2 : Int) <= 32))
 ((WfPs zz18_ps ((p0.1.toNat : Int), p0.2, ()) →
 zz18_q (p0.1.toNat : Int) p0.2 (fun x16 =>
 WfPs zz18_rs (x16, ()) →
 K ((x16 : Int) == (p0.1.toNat : Int)))))
 (K false))
 (K false)
noncomputable def tab_zz21 : Tab := ⟨[(f_zz18, ct_zz18)], []⟩
abbrev zz21_L (x : PkTs zz21_ps) (K : PkTs zz21_rs -> Prop) : Prop := zz21_q x.1 (fun r0 => K (r0, ()))
theorem zz21_eq : zz21_L = fun x K => PCode Tryd.prog tab_zz21 plan_zz21 (bodyOf Tryd.f8) (parS zz21_ps x) (PRet Tryd.prog Tryd.f8.results.toList fun a st => outP zz21_rs st a K) := by kernel_rfl
theorem zz21_fq : FnQ Tryd.prog f_zz21 zz21_ps zz21_rs zz21_L := (fnQ_of k_zz21 (tab := tab_zz21) ⟨⟨ct_zz18_ok, trivial⟩, trivial⟩ rfl).of_eq zz21_eq
noncomputable def ct_zz21 : Ct := ctRd zz21_ps zz21_rs zz21_L
theorem ct_zz21_ok : SoundCt Tryd.prog f_zz21 ct_zz21 := ctRd_sound zz21_fq
def pl_upd_put_3 : PLoop := ⟨[(4, PK.row T_uint8 [Kd.int .u8]), (10, PK.int .i64)], [8, 9], []⟩
def pl_upd_put_9 : PLoop := ⟨[(4, PK.row T_uint8 [Kd.int .u8]), (26, PK.int .i64)], [6, 8, 9, 10, 25], []⟩
def plan_upd_put : PPlan := ⟨[], [(3, pl_upd_put_3), (9, pl_upd_put_9)], [], [], [], []⟩
theorem k_upd_put : Known Tryd.prog f_upd_put Tryd.f19 plan_upd_put.plan (bodyOf Tryd.f19) := by refine ⟨Tryd.func19, ?_, ?_, ?_, ?_, ?_⟩ <;> kernel_rfl
abbrev upd_put_ps : List Pk := [Pk.lst [Kd.int .u32, Kd.int .i64]]
abbrev upd_put_rs : List Pk := [Pk.own T_uint8 [Kd.int .u8], Pk.bool]
def upd_put_l9 (x12 : UInt32 × Int) (l0 : List (UInt32 × Int)) (x10 : Int) (x25 : Int) (next3 : (List UInt8 × Int × Unit) -> Prop) (b4_1 : List UInt8) (x26 : Int) (next9 : (List UInt8 × Int × Unit) -> Prop) (K : List UInt8 -> Bool -> Prop) : Prop :=
 IfB (decide ((x26 : Int) < x25))
 ((0 : Int) <= (IntKind.wrap .i64 (24 - (IntKind.wrap .i64 (8 * x26)))) ∧
 b4_1.length + ([(ofI .u8 (IntKind.wrap .u8 (Int.fdiv (x12.1.toNat : Int) (2 ^ (min ((IntKind.wrap .i64 (24 - (IntKind.wrap .i64 (8 * x26)))) : Int).toNat (IntKind.bits .u32))))))] : List UInt8).length <= 140737488355232 ∧
 next9 ((b4_1 ++ ([(ofI .u8 (IntKind.wrap .u8 (Int.fdiv (x12.1.toNat : Int) (2 ^ (min ((IntKind.wrap .i64 (24 - (IntKind.wrap .i64 (8 * x26)))) : Int).toNat (IntKind.bits .u32))))))] : List UInt8)), (IntKind.wrap .i64 (x26 + 1)), ()))
 (next3 (b4_1, (IntKind.wrap .i64 (x10 + 1)), ()))
def upd_put_l3 (l0 : List (UInt32 × Int)) (b4 : List UInt8) (x10 : Int) (next3 : (List UInt8 × Int × Unit) -> Prop) (K : List UInt8 -> Bool -> Prop) : Prop :=
 IfB (decide ((x10 : Int) < (l0.length : Int)))
 ((0 : Int) <= x10 ∧ AtN l0 x10.toNat fun x12 =>
 WfT ks_int_u32_int_i64 x12 →
 (WfPs zz21_ps ((((ofI .u32 (x12.1.toNat : Int)), x12.2) : UInt32 × Int), ()) →
 zz21_q (((ofI .u32 (x12.1.toNat : Int)), x12.2) : UInt32 × Int) (fun x15 =>
 WfPs zz21_rs (x15, ()) →
 IfB (!x15)
 (K ([] : List UInt8) false)
 (b4.length + ([(ofI .u8 (IntKind.wrap .u8 x12.2))] : List UInt8).length <= 140737488355232 ∧
 (WfPs zz19_ps (x12.2, ()) →
 zz19_q x12.2 (fun x25 =>
 WfPs zz19_rs (x25, ()) →
 LoopJ (List UInt8 × Int × Unit) ((b4 ++ ([(ofI .u8 (IntKind.wrap .u8 x12.2))] : List UInt8)), (0 : Int), ()) fun y next =>
 WfY pl_upd_put_9.kinds y →
 upd_put_l9 x12 l0 x10 x25 next3 y.1 y.2.1 next K))))))
 (K b4 true)
def upd_put_q (l0 : List (UInt32 × Int)) (K : List UInt8 -> Bool -> Prop) : Prop :=
 LoopJ (List UInt8 × Int × Unit) (([] : List UInt8), (0 : Int), ()) fun y next =>
 WfY pl_upd_put_3.kinds y →
 upd_put_l3 l0 y.1 y.2.1 next K
noncomputable def tab_upd_put : Tab := ⟨[(f_zz21, ct_zz21), (f_zz19, ct_zz19)], []⟩
abbrev upd_put_L (x : PkTs upd_put_ps) (K : PkTs upd_put_rs -> Prop) : Prop := upd_put_q x.1 (fun r0 r1 => K (r0, r1, ()))
theorem upd_put_eq : upd_put_L = fun x K => PCode Tryd.prog tab_upd_put plan_upd_put (bodyOf Tryd.f19) (parS upd_put_ps x) (PRet Tryd.prog Tryd.f19.results.toList fun a st => outP upd_put_rs st a K) := by kernel_rfl
theorem upd_put_fq : FnQ Tryd.prog f_upd_put upd_put_ps upd_put_rs upd_put_L := (fnQ_of k_upd_put (tab := tab_upd_put) ⟨⟨ct_zz21_ok, ct_zz19_ok, trivial⟩, trivial⟩ rfl).of_eq upd_put_eq
noncomputable def ct_upd_put : Ct := ctVal upd_put_ps upd_put_rs upd_put_L
theorem ct_upd_put_ok : SoundCt Tryd.prog f_upd_put ct_upd_put := ctVal_sound upd_put_fq
def plan_zz34 : PPlan := ⟨[], [], [], [], [], []⟩
theorem k_zz34 : Known Tryd.prog f_zz34 Tryd.f22 plan_zz34.plan (bodyOf Tryd.f22) := by refine ⟨Tryd.func22, ?_, ?_, ?_, ?_, ?_⟩ <;> kernel_rfl
abbrev zz34_ps : List Pk := [Pk.lst [Kd.int .u8]]
abbrev zz34_rs : List Pk := [Pk.own T_uint8 [Kd.int .u8]]
def zz34_q (b0 : List UInt8) (K : List UInt8 -> Prop) : Prop :=
 (0 : Int) <= 8 ∧
 (WfPs zz10_ps (([([(ofI .u8 (IntKind.wrap .u8 (Int.fdiv (b0.length : Int) 256))), (ofI .u8 (IntKind.wrap .u8 (b0.length : Int)))] : List UInt8), b0] : List (List UInt8)), ()) →
 zz10_q ([([(ofI .u8 (IntKind.wrap .u8 (Int.fdiv (b0.length : Int) 256))), (ofI .u8 (IntKind.wrap .u8 (b0.length : Int)))] : List UInt8), b0] : List (List UInt8)) (fun x13 =>
 WfPs zz10_rs (x13, ()) →
 K x13))
noncomputable def tab_zz34 : Tab := ⟨[(f_zz10, ct_zz10)], []⟩
abbrev zz34_L (x : PkTs zz34_ps) (K : PkTs zz34_rs -> Prop) : Prop := zz34_q x.1 (fun r0 => K (r0, ()))
theorem zz34_eq : zz34_L = fun x K => PCode Tryd.prog tab_zz34 plan_zz34 (bodyOf Tryd.f22) (parS zz34_ps x) (PRet Tryd.prog Tryd.f22.results.toList fun a st => outP zz34_rs st a K) := by kernel_rfl
theorem zz34_fq : FnQ Tryd.prog f_zz34 zz34_ps zz34_rs zz34_L := (fnQ_of k_zz34 (tab := tab_zz34) ⟨⟨ct_zz10_ok, trivial⟩, trivial⟩ rfl).of_eq zz34_eq
noncomputable def ct_zz34 : Ct := ctVal zz34_ps zz34_rs zz34_L
theorem ct_zz34_ok : SoundCt Tryd.prog f_zz34 ct_zz34 := ctVal_sound zz34_fq
def plan_zz13 : PPlan := ⟨[], [], [], [], [], []⟩
theorem k_zz13 : Known Tryd.prog f_zz13 Tryd.f9 plan_zz13.plan (bodyOf Tryd.f9) := by refine ⟨Tryd.func9, ?_, ?_, ?_, ?_, ?_⟩ <;> kernel_rfl
abbrev zz13_ps : List Pk := [Pk.agg [Kd.lst [Kd.int .u32, Kd.int .i64], Kd.lst [Kd.int .u32, Kd.int .i64], Kd.int .i64, Kd.lst [Kd.bool, Kd.lst [Kd.int .u32]], Kd.int .u32, Kd.bool, Kd.int .u32, Kd.bool, Kd.int .u32, Kd.bool, Kd.bool, Kd.int .u32, Kd.int .u32, Kd.lst [Kd.int .u32], Kd.lst [Kd.int .i64, Kd.lst [Kd.int .u8]], Kd.int .i64], Pk.bool]
abbrev zz13_rs : List Pk := [Pk.own T_uint8 [Kd.int .u8], Pk.int .i64]
def zz13_j1 (x16r0 : List UInt8) (x22r0 : List UInt8) (j2 : List UInt8) (K : List UInt8 -> Int -> Prop) : Prop :=
 IfB (decide (((IntKind.wrap .i64 ((IntKind.wrap .i64 ((IntKind.wrap .i64 ((x16r0.length : Int) + (j2.length : Int))) + (x22r0.length : Int))) + 4)) : Int) > 4077))
 (K ([] : List UInt8) 3)
 ((WfPs zz34_ps (x16r0, ()) →
 zz34_q x16r0 (fun x57 =>
 WfPs zz34_rs (x57, ()) →
 (WfPs zz34_ps (j2, ()) →
 zz34_q j2 (fun x59 =>
 WfPs zz34_rs (x59, ()) →
 (WfPs zz10_ps (([x57, x59, x22r0] : List (List UInt8)), ()) →
 zz10_q ([x57, x59, x22r0] : List (List UInt8)) (fun x62 =>
 WfPs zz10_rs (x62, ()) →
 K x62 0)))))))
def zz13_j0 (four1 : Bool) (u0 : List (UInt32 × Int) × List (UInt32 × Int) × TyL1) (x16r0 : List UInt8) (x22r0 : List UInt8) (j19 : Bool) (K : List UInt8 -> Int -> Prop) : Prop :=
 IfB j19
 (K ([] : List UInt8) 2)
 (IfB (decide (((u0.2.1.length : Int) : Int) > 0))
 ((WfPs zz4_ps (((u0.2.2.1, u0.2.2.2.1, (ofI .u32 (u0.2.2.2.2.1.toNat : Int)), u0.2.2.2.2.2.1, (ofI .u32 (u0.2.2.2.2.2.2.1.toNat : Int)), u0.2.2.2.2.2.2.2.1, (ofI .u32 (u0.2.2.2.2.2.2.2.2.1.toNat : Int)), u0.2.2.2.2.2.2.2.2.2.1, u0.2.2.2.2.2.2.2.2.2.2.1, (ofI .u32 (u0.2.2.2.2.2.2.2.2.2.2.2.1.toNat : Int)), (ofI .u32 (u0.2.2.2.2.2.2.2.2.2.2.2.2.1.toNat : Int)), u0.2.2.2.2.2.2.2.2.2.2.2.2.2.1, u0.2.2.2.2.2.2.2.2.2.2.2.2.2.2.1) : Int × List (Bool × List UInt32) × UInt32 × Bool × UInt32 × Bool × UInt32 × Bool × Bool × UInt32 × UInt32 × List UInt32 × List (Int × List UInt8)), four1, ()) →
 zz4_q ((u0.2.2.1, u0.2.2.2.1, (ofI .u32 (u0.2.2.2.2.1.toNat : Int)), u0.2.2.2.2.2.1, (ofI .u32 (u0.2.2.2.2.2.2.1.toNat : Int)), u0.2.2.2.2.2.2.2.1, (ofI .u32 (u0.2.2.2.2.2.2.2.2.1.toNat : Int)), u0.2.2.2.2.2.2.2.2.2.1, u0.2.2.2.2.2.2.2.2.2.2.1, (ofI .u32 (u0.2.2.2.2.2.2.2.2.2.2.2.1.toNat : Int)), (ofI .u32 (u0.2.2.2.2.2.2.2.2.2.2.2.2.1.toNat : Int)), u0.2.2.2.2.2.2.2.2.2.2.2.2.2.1, u0.2.2.2.2.2.2.2.2.2.2.2.2.2.2.1) : Int × List (Bool × List UInt32) × UInt32 × Bool × UInt32 × Bool × UInt32 × Bool × Bool × UInt32 × UInt32 × List UInt32 × List (Int × List UInt8)) four1 (fun x39r0 x39r1 =>
 WfPs zz4_rs (x39r0, x39r1, ()) →
 IfB ((x39r1 : Int) != 0)
 (K ([] : List UInt8) x39r1)
 (zz13_j1 x16r0 x22r0 x39r0 K))))
 (zz13_j1 x16r0 x22r0 ([] : List UInt8) K))
def zz13_q (u0 : List (UInt32 × Int) × List (UInt32 × Int) × TyL1) (four1 : Bool) (K : List UInt8 -> Int -> Prop) : Prop :=
 (WfPs upd_put_ps (u0.1, ()) →
 upd_put_q u0.1 (fun x16r0 x16r1 =>
 WfPs upd_put_rs (x16r0, x16r1, ()) →
 (WfPs upd_put_ps (u0.2.1, ()) →
 upd_put_q u0.2.1 (fun x22r0 x22r1 =>
 WfPs upd_put_rs (x22r0, x22r1, ()) →
 IfB (!x16r1)
 (zz13_j0 four1 u0 x16r0 x22r0 true K)
 (zz13_j0 four1 u0 x16r0 x22r0 (!x22r1) K)))))
noncomputable def tab_zz13 : Tab := ⟨[(f_upd_put, ct_upd_put), (f_zz4, ct_zz4), (f_zz10, ct_zz10), (f_zz34, ct_zz34)], []⟩
abbrev zz13_L (x : PkTs zz13_ps) (K : PkTs zz13_rs -> Prop) : Prop := zz13_q x.1 x.2.1 (fun r0 r1 => K (r0, r1, ()))
theorem zz13_eq : zz13_L = fun x K => PCode Tryd.prog tab_zz13 plan_zz13 (bodyOf Tryd.f9) (parS zz13_ps x) (PRet Tryd.prog Tryd.f9.results.toList fun a st => outP zz13_rs st a K) := by kernel_rfl
theorem zz13_fq : FnQ Tryd.prog f_zz13 zz13_ps zz13_rs zz13_L := (fnQ_of k_zz13 (tab := tab_zz13) ⟨⟨ct_upd_put_ok, ct_zz4_ok, ct_zz10_ok, ct_zz34_ok, trivial⟩, trivial⟩ rfl).of_eq zz13_eq
noncomputable def ct_zz13 : Ct := ctVal zz13_ps zz13_rs zz13_L
theorem ct_zz13_ok : SoundCt Tryd.prog f_zz13 ct_zz13 := ctVal_sound zz13_fq
def plan_zz50 : PPlan := ⟨[], [], [], [], [], []⟩
theorem k_zz50 : Known Tryd.prog f_zz50 Tryd.f12 plan_zz50.plan (bodyOf Tryd.f12) := by refine ⟨Tryd.func12, ?_, ?_, ?_, ?_, ?_⟩ <;> kernel_rfl
abbrev zz50_ps : List Pk := [Pk.lst [Kd.int .u8], Pk.lst [Kd.int .u8]]
abbrev zz50_rs : List Pk := [Pk.bool]
def zz50_q (a0 : List UInt8) (b1 : List UInt8) (K : Bool -> Prop) : Prop :=
 K (a0 == b1)
noncomputable def tab_zz50 : Tab := ⟨[], []⟩
abbrev zz50_L (x : PkTs zz50_ps) (K : PkTs zz50_rs -> Prop) : Prop := zz50_q x.1 x.2.1 (fun r0 => K (r0, ()))
theorem zz50_eq : zz50_L = fun x K => PCode Tryd.prog tab_zz50 plan_zz50 (bodyOf Tryd.f12) (parS zz50_ps x) (PRet Tryd.prog Tryd.f12.results.toList fun a st => outP zz50_rs st a K) := by kernel_rfl
theorem zz50_fq : FnQ Tryd.prog f_zz50 zz50_ps zz50_rs zz50_L := (fnQ_of k_zz50 (tab := tab_zz50) ⟨trivial, trivial⟩ rfl).of_eq zz50_eq
noncomputable def ct_zz50 : Ct := ctRd zz50_ps zz50_rs zz50_L
theorem ct_zz50_ok : SoundCt Tryd.prog f_zz50 ct_zz50 := ctRd_sound zz50_fq
def pl_zz26_5 : PLoop := ⟨[(3, PK.row T_string [Kd.str]), (8, PK.int .i64)], [1], []⟩
def plan_zz26 : PPlan := ⟨[(9, [0, 3, 4, 1, 2, 5, 6, 7], [28])], [(5, pl_zz26_5)], [], [], [], []⟩
theorem k_zz26 : Known Tryd.prog f_zz26 Tryd.f13 plan_zz26.plan (bodyOf Tryd.f13) := by refine ⟨Tryd.func13, ?_, ?_, ?_, ?_, ?_⟩ <;> kernel_rfl
abbrev zz26_ps : List Pk := [Pk.agg [Kd.int .u32, Kd.int .i64]]
abbrev zz26_rs : List Pk := [Pk.str]
def zz26_l5 (p0 : UInt32 × Int) (l3 : List (List UInt8)) (x8 : Int) (next5 : (List (List UInt8) × Int × Unit) -> Prop) (K : List UInt8 -> Prop) : Prop :=
 IfB (decide ((x8 : Int) < 4))
 ((0 : Int) <= (IntKind.wrap .i64 (24 - (IntKind.wrap .i64 (8 * x8)))) ∧
 (WfPs strconv_Itoa_ps ((IntKind.wrap .i64 (bitsAnd .u32 (Int.fdiv (p0.1.toNat : Int) (2 ^ (min ((IntKind.wrap .i64 (24 - (IntKind.wrap .i64 (8 * x8)))) : Int).toNat (IntKind.bits .u32)))) 255)), ()) →
 strconv_Itoa_q (IntKind.wrap .i64 (bitsAnd .u32 (Int.fdiv (p0.1.toNat : Int) (2 ^ (min ((IntKind.wrap .i64 (24 - (IntKind.wrap .i64 (8 * x8)))) : Int).toNat (IntKind.bits .u32)))) 255)) (fun x20 =>
 WfPs strconv_Itoa_rs (x20, ()) →
 l3.length + ([x20] : List (List UInt8)).length <= 8796093022112 ∧
 next5 ((l3 ++ ([x20] : List (List UInt8))), (IntKind.wrap .i64 (x8 + 1)), ()))))
 ((WfPs strings_Join_ps (l3, ([46] : List UInt8), ()) →
 strings_Join_q l3 ([46] : List UInt8) (fun x25 =>
 WfPs strings_Join_rs (x25, ()) →
 x25.length + ([47] : List UInt8).length <= lenMax ∧
 (WfPs strconv_Itoa_ps (p0.2, ()) →
 strconv_Itoa_q p0.2 (fun x29 =>
 WfPs strconv_Itoa_rs (x29, ()) →
 (x25 ++ ([47] : List UInt8)).length + x29.length <= lenMax ∧
 K ((x25 ++ ([47] : List UInt8)) ++ x29))))))
def zz26_q (p0 : UInt32 × Int) (K : List UInt8 -> Prop) : Prop :=
 (WfPs zz21_ps ((((ofI .u32 (p0.1.toNat : Int)), p0.2) : UInt32 × Int), ()) →
 zz21_q (((ofI .u32 (p0.1.toNat : Int)), p0.2) : UInt32 × Int) (fun x6 =>
 WfPs zz21_rs (x6, ()) →
 IfB (!x6)
 (K ([] : List UInt8))
 (LoopJ (List (List UInt8) × Int × Unit) (([] : List (List UInt8)), (0 : Int), ()) fun y next =>
 WfY pl_zz26_5.kinds y →
 zz26_l5 p0 y.1 y.2.1 next K)))
noncomputable def tab_zz26 : Tab := ⟨[(f_zz21, ct_zz21), (f_strconv_Itoa, ct_strconv_Itoa), (f_strings_Join, ct_strings_Join)], []⟩
abbrev zz26_L (x : PkTs zz26_ps) (K : PkTs zz26_rs -> Prop) : Prop := zz26_q x.1 (fun r0 => K (r0, ()))
theorem zz26_eq : zz26_L = fun x K => PCode Tryd.prog tab_zz26 plan_zz26 (bodyOf Tryd.f13) (parS zz26_ps x) (PRet Tryd.prog Tryd.f13.results.toList fun a st => outP zz26_rs st a K) := by kernel_rfl
theorem zz26_fq : FnQ Tryd.prog f_zz26 zz26_ps zz26_rs zz26_L := (fnQ_of k_zz26 (tab := tab_zz26) ⟨⟨ct_zz21_ok, ct_strconv_Itoa_ok, ct_strings_Join_ok, trivial⟩, trivial⟩ rfl).of_eq zz26_eq
noncomputable def ct_zz26 : Ct := ctRd zz26_ps zz26_rs zz26_L
theorem ct_zz26_ok : SoundCt Tryd.prog f_zz26 ct_zz26 := ctRd_sound zz26_fq
def plan_zz46 : PPlan := ⟨[], [], [], [], [], []⟩
theorem k_zz46 : Known Tryd.prog f_zz46 Tryd.f5 plan_zz46.plan (bodyOf Tryd.f5) := by refine ⟨Tryd.func5, ?_, ?_, ?_, ?_, ?_⟩ <;> kernel_rfl
abbrev zz46_ps : List Pk := []
abbrev zz46_rs : List Pk := [Pk.bool]
def zz46_q  (K : Bool -> Prop) : Prop :=
 (WfPs zz13_ps (((([((ofI .u32 167772160), 8)] : List (UInt32 × Int)), ([] : List (UInt32 × Int)), 0, ([] : List (Bool × List UInt32)), (ofI .u32 0), false, (ofI .u32 0), false, (ofI .u32 0), false, false, (ofI .u32 0), (ofI .u32 0), ([] : List UInt32), ([] : List (Int × List UInt8)), 0) : List (UInt32 × Int) × List (UInt32 × Int) × TyL1), false, ()) →
 zz13_q ((([((ofI .u32 167772160), 8)] : List (UInt32 × Int)), ([] : List (UInt32 × Int)), 0, ([] : List (Bool × List UInt32)), (ofI .u32 0), false, (ofI .u32 0), false, (ofI .u32 0), false, false, (ofI .u32 0), (ofI .u32 0), ([] : List UInt32), ([] : List (Int × List UInt8)), 0) : List (UInt32 × Int) × List (UInt32 × Int) × TyL1) false (fun x10r0 x10r1 =>
 WfPs zz13_rs (x10r0, x10r1, ()) →
 (WfPs zz11_ps (x10r0, false, ()) →
 zz11_q x10r0 false (fun x15r0 x15r1 x15r2 =>
 WfPs zz11_rs (x15r0, x15r1, x15r2, ()) →
 IfB ((x10r1 : Int) == 0)
 ((WfPs zz50_ps (x10r0, ([(ofI .u8 0), (ofI .u8 2), (ofI .u8 8), (ofI .u8 10), (ofI .u8 0), (ofI .u8 0)] : List UInt8), ()) →
 zz50_q x10r0 ([(ofI .u8 0), (ofI .u8 2), (ofI .u8 8), (ofI .u8 10), (ofI .u8 0), (ofI .u8 0)] : List UInt8) (fun x24 =>
 WfPs zz50_rs (x24, ()) →
 IfB x24
 (IfB x15r2
 (IfB (((x15r0.1.length : Int) : Int) == 1)
 ((0 : Int) <= 0 ∧ AtN x15r0.1 0 fun x38 =>
 WfT ks_int_u32_int_i64 x38 →
 IfB ((((x38.1.toNat : Int) : Int) == 167772160) && (((x38.2 : Int) == 8) && true))
 ((0 : Int) <= 0 ∧ AtN x15r0.1 0 fun x46 =>
 WfT ks_int_u32_int_i64 x46 →
 (WfPs zz26_ps ((((ofI .u32 (x46.1.toNat : Int)), x46.2) : UInt32 × Int), ()) →
 zz26_q (((ofI .u32 (x46.1.toNat : Int)), x46.2) : UInt32 × Int) (fun x48 =>
 WfPs zz26_rs (x48, ()) →
 K (x48 == ([49, 48, 46, 48, 46, 48, 46, 48, 47, 56] : List UInt8)))))
 (K false))
 (K false))
 (K false))
 (K false))))
 (K false)))))
noncomputable def tab_zz46 : Tab := ⟨[(f_zz11, ct_zz11), (f_zz13, ct_zz13), (f_zz50, ct_zz50), (f_zz26, ct_zz26)], []⟩
abbrev zz46_L (x : PkTs zz46_ps) (K : PkTs zz46_rs -> Prop) : Prop := zz46_q  (fun r0 => K (r0, ()))
theorem zz46_eq : zz46_L = fun x K => PCode Tryd.prog tab_zz46 plan_zz46 (bodyOf Tryd.f5) (parS zz46_ps x) (PRet Tryd.prog Tryd.f5.results.toList fun a st => outP zz46_rs st a K) := by kernel_rfl
theorem zz46_fq : FnQ Tryd.prog f_zz46 zz46_ps zz46_rs zz46_L := (fnQ_of k_zz46 (tab := tab_zz46) ⟨⟨ct_zz11_ok, ct_zz13_ok, ct_zz50_ok, ct_zz26_ok, trivial⟩, trivial⟩ rfl).of_eq zz46_eq
noncomputable def ct_zz46 : Ct := ctRd zz46_ps zz46_rs zz46_L
theorem ct_zz46_ok : SoundCt Tryd.prog f_zz46 ct_zz46 := ctRd_sound zz46_fq
def plan_upd_End : PPlan := ⟨[], [], [], [], [], []⟩
theorem k_upd_End : Known Tryd.prog f_upd_End Tryd.f7 plan_upd_End.plan (bodyOf Tryd.f7) := by refine ⟨Tryd.func7, ?_, ?_, ?_, ?_, ?_⟩ <;> kernel_rfl
abbrev upd_End_ps : List Pk := [Pk.agg [Kd.lst [Kd.int .u32, Kd.int .i64], Kd.lst [Kd.int .u32, Kd.int .i64], Kd.int .i64, Kd.lst [Kd.bool, Kd.lst [Kd.int .u32]], Kd.int .u32, Kd.bool, Kd.int .u32, Kd.bool, Kd.int .u32, Kd.bool, Kd.bool, Kd.int .u32, Kd.int .u32, Kd.lst [Kd.int .u32], Kd.lst [Kd.int .i64, Kd.lst [Kd.int .u8]], Kd.int .i64]]
abbrev upd_End_rs : List Pk := [Pk.bool]
def upd_End_q (u0 : List (UInt32 × Int) × List (UInt32 × Int) × TyL1) (K : Bool -> Prop) : Prop :=
 IfB (((u0.1.length : Int) : Int) == 0)
 (K (((u0.2.1.length : Int) : Int) == 0))
 (K false)
noncomputable def tab_upd_End : Tab := ⟨[], []⟩
abbrev upd_End_L (x : PkTs upd_End_ps) (K : PkTs upd_End_rs -> Prop) : Prop := upd_End_q x.1 (fun r0 => K (r0, ()))
theorem upd_End_eq : upd_End_L = fun x K => PCode Tryd.prog tab_upd_End plan_upd_End (bodyOf Tryd.f7) (parS upd_End_ps x) (PRet Tryd.prog Tryd.f7.results.toList fun a st => outP upd_End_rs st a K) := by kernel_rfl
theorem upd_End_fq : FnQ Tryd.prog f_upd_End upd_End_ps upd_End_rs upd_End_L := (fnQ_of k_upd_End (tab := tab_upd_End) ⟨trivial, trivial⟩ rfl).of_eq upd_End_eq
noncomputable def ct_upd_End : Ct := ctRd upd_End_ps upd_End_rs upd_End_L
theorem ct_upd_End_ok : SoundCt Tryd.prog f_upd_End ct_upd_End := ctRd_sound upd_End_fq
def pl_zz37_8 : PLoop := ⟨[(10, PK.int .i64)], [2, 7], []⟩
def pl_zz37_13 : PLoop := ⟨[(11, PK.int .i64)], [2, 7], []⟩
def plan_zz37 : PPlan := ⟨[], [(8, pl_zz37_8), (13, pl_zz37_13)], [], [], [], []⟩
theorem k_zz37 : Known Tryd.prog f_zz37 Tryd.f3 plan_zz37.plan (bodyOf Tryd.f3) := by refine ⟨Tryd.func3, ?_, ?_, ?_, ?_, ?_⟩ <;> kernel_rfl
abbrev zz37_ps : List Pk := [Pk.lst [Kd.int .u8], Pk.bool, Pk.bool]
abbrev zz37_rs : List Pk := [Pk.bool]
def zz37_l13 (other2 : Bool) (x24r0 : List (UInt32 × Int) × List (UInt32 × Int) × TyL1) (i11 : Int) (next13 : (Int × Unit) -> Prop) (K : Bool -> Prop) : Prop :=
 IfB (decide ((i11 : Int) < (x24r0.2.1.length : Int)))
 ((0 : Int) <= i11 ∧ AtN x24r0.2.1 i11.toNat fun x56 =>
 WfT ks_int_u32_int_i64 x56 →
 (WfPs zz21_ps ((((ofI .u32 (x56.1.toNat : Int)), x56.2) : UInt32 × Int), ()) →
 zz21_q (((ofI .u32 (x56.1.toNat : Int)), x56.2) : UInt32 × Int) (fun x58 =>
 WfPs zz21_rs (x58, ()) →
 IfB (!x58)
 (K false)
 (next13 ((IntKind.wrap .i64 (i11 + 1)), ())))))
 ((WfPs zz13_ps (((x24r0.1, x24r0.2.1, x24r0.2.2.1, x24r0.2.2.2.1, (ofI .u32 (x24r0.2.2.2.2.1.toNat : Int)), x24r0.2.2.2.2.2.1, (ofI .u32 (x24r0.2.2.2.2.2.2.1.toNat : Int)), x24r0.2.2.2.2.2.2.2.1, (ofI .u32 (x24r0.2.2.2.2.2.2.2.2.1.toNat : Int)), x24r0.2.2.2.2.2.2.2.2.2.1, x24r0.2.2.2.2.2.2.2.2.2.2.1, (ofI .u32 (x24r0.2.2.2.2.2.2.2.2.2.2.2.1.toNat : Int)), (ofI .u32 (x24r0.2.2.2.2.2.2.2.2.2.2.2.2.1.toNat : Int)), x24r0.2.2.2.2.2.2.2.2.2.2.2.2.2.1, x24r0.2.2.2.2.2.2.2.2.2.2.2.2.2.2.1, x24r0.2.2.2.2.2.2.2.2.2.2.2.2.2.2.2) : List (UInt32 × Int) × List (UInt32 × Int) × TyL1), other2, ()) →
 zz13_q ((x24r0.1, x24r0.2.1, x24r0.2.2.1, x24r0.2.2.2.1, (ofI .u32 (x24r0.2.2.2.2.1.toNat : Int)), x24r0.2.2.2.2.2.1, (ofI .u32 (x24r0.2.2.2.2.2.2.1.toNat : Int)), x24r0.2.2.2.2.2.2.2.1, (ofI .u32 (x24r0.2.2.2.2.2.2.2.2.1.toNat : Int)), x24r0.2.2.2.2.2.2.2.2.2.1, x24r0.2.2.2.2.2.2.2.2.2.2.1, (ofI .u32 (x24r0.2.2.2.2.2.2.2.2.2.2.2.1.toNat : Int)), (ofI .u32 (x24r0.2.2.2.2.2.2.2.2.2.2.2.2.1.toNat : Int)), x24r0.2.2.2.2.2.2.2.2.2.2.2.2.2.1, x24r0.2.2.2.2.2.2.2.2.2.2.2.2.2.2.1, x24r0.2.2.2.2.2.2.2.2.2.2.2.2.2.2.2) : List (UInt32 × Int) × List (UInt32 × Int) × TyL1) other2 (fun x63r0 x63r1 =>
 WfPs zz13_rs (x63r0, x63r1, ()) →
 IfB ((x63r1 : Int) == 0)
 (K true)
 (K ((x63r1 : Int) == 3)))))
def zz37_l8 (other2 : Bool) (x24r0 : List (UInt32 × Int) × List (UInt32 × Int) × TyL1) (i10 : Int) (next8 : (Int × Unit) -> Prop) (K : Bool -> Prop) : Prop :=
 IfB (decide ((i10 : Int) < (x24r0.1.length : Int)))
 ((0 : Int) <= i10 ∧ AtN x24r0.1 i10.toNat fun x42 =>
 WfT ks_int_u32_int_i64 x42 →
 (WfPs zz21_ps ((((ofI .u32 (x42.1.toNat : Int)), x42.2) : UInt32 × Int), ()) →
 zz21_q (((ofI .u32 (x42.1.toNat : Int)), x42.2) : UInt32 × Int) (fun x44 =>
 WfPs zz21_rs (x44, ()) →
 IfB (!x44)
 (K false)
 (next8 ((IntKind.wrap .i64 (i10 + 1)), ())))))
 (LoopJ (Int × Unit) ((0 : Int), ()) fun y next =>
 WfY pl_zz37_13.kinds y →
 zz37_l13 other2 x24r0 y.1 next K)
def zz37_q (b0 : List UInt8) (four1 : Bool) (other2 : Bool) (K : Bool -> Prop) : Prop :=
 (WfPs zz46_ps (()) →
 zz46_q  (fun x14 =>
 WfPs zz46_rs (x14, ()) →
 IfB (!x14)
 (K false)
 ((0 : Int) <= (min (b0.length : Int) 1500) ∧ (min (b0.length : Int) 1500) <= (b0.length : Int) ∧
 (WfPs zz11_ps ((b0.take ((min (b0.length : Int) 1500).toNat)), four1, ()) →
 zz11_q (b0.take ((min (b0.length : Int) 1500).toNat)) four1 (fun x24r0 x24r1 x24r2 =>
 WfPs zz11_rs (x24r0, x24r1, x24r2, ()) →
 IfB (!x24r2)
 ((WfPs upd_End_ps (((x24r0.1, x24r0.2.1, x24r0.2.2.1, x24r0.2.2.2.1, (ofI .u32 (x24r0.2.2.2.2.1.toNat : Int)), x24r0.2.2.2.2.2.1, (ofI .u32 (x24r0.2.2.2.2.2.2.1.toNat : Int)), x24r0.2.2.2.2.2.2.2.1, (ofI .u32 (x24r0.2.2.2.2.2.2.2.2.1.toNat : Int)), x24r0.2.2.2.2.2.2.2.2.2.1, x24r0.2.2.2.2.2.2.2.2.2.2.1, (ofI .u32 (x24r0.2.2.2.2.2.2.2.2.2.2.2.1.toNat : Int)), (ofI .u32 (x24r0.2.2.2.2.2.2.2.2.2.2.2.2.1.toNat : Int)), x24r0.2.2.2.2.2.2.2.2.2.2.2.2.2.1, x24r0.2.2.2.2.2.2.2.2.2.2.2.2.2.2.1, x24r0.2.2.2.2.2.2.2.2.2.2.2.2.2.2.2) : List (UInt32 × Int) × List (UInt32 × Int) × TyL1), ()) →
 upd_End_q ((x24r0.1, x24r0.2.1, x24r0.2.2.1, x24r0.2.2.2.1, (ofI .u32 (x24r0.2.2.2.2.1.toNat : Int)), x24r0.2.2.2.2.2.1, (ofI .u32 (x24r0.2.2.2.2.2.2.1.toNat : Int)), x24r0.2.2.2.2.2.2.2.1, (ofI .u32 (x24r0.2.2.2.2.2.2.2.2.1.toNat : Int)), x24r0.2.2.2.2.2.2.2.2.2.1, x24r0.2.2.2.2.2.2.2.2.2.2.1, (ofI .u32 (x24r0.2.2.2.2.2.2.2.2.2.2.2.1.toNat : Int)), (ofI .u32 (x24r0.2.2.2.2.2.2.2.2.2.2.2.2.1.toNat : Int)), x24r0.2.2.2.2.2.2.2.2.2.2.2.2.2.1, x24r0.2.2.2.2.2.2.2.2.2.2.2.2.2.2.1, x24r0.2.2.2.2.2.2.2.2.2.2.2.2.2.2.2) : List (UInt32 × Int) × List (UInt32 × Int) × TyL1) (fun x31 =>
 WfPs upd_End_rs (x31, ()) →
 K x31)))
 (LoopJ (Int × Unit) ((0 : Int), ()) fun y next =>
 WfY pl_zz37_8.kinds y →
 zz37_l8 other2 x24r0 y.1 next K))))))
noncomputable def tab_zz37 : Tab := ⟨[(f_zz46, ct_zz46), (f_zz11, ct_zz11), (f_upd_End, ct_upd_End), (f_zz21, ct_zz21), (f_zz13, ct_zz13)], []⟩
abbrev zz37_L (x : PkTs zz37_ps) (K : PkTs zz37_rs -> Prop) : Prop := zz37_q x.1 x.2.1 x.2.2.1 (fun r0 => K (r0, ()))
theorem zz37_eq : zz37_L = fun x K => PCode Tryd.prog tab_zz37 plan_zz37 (bodyOf Tryd.f3) (parS zz37_ps x) (PRet Tryd.prog Tryd.f3.results.toList fun a st => outP zz37_rs st a K) := by kernel_rfl
theorem zz37_fq : FnQ Tryd.prog f_zz37 zz37_ps zz37_rs zz37_L := (fnQ_of k_zz37 (tab := tab_zz37) ⟨⟨ct_zz46_ok, ct_zz11_ok, ct_upd_End_ok, ct_zz21_ok, ct_zz13_ok, trivial⟩, trivial⟩ rfl).of_eq zz37_eq
end Go.Proofs.YtboagabgpcghcaaDoor
