/-
  EACH FUNCTION OVER PLAIN DATA: printed by a program of ours over this translation.
-/
import Derived.Test.YtboagabgpcghcaaDoorNum
import Derived.Test.YtboagabgpcghcaaDoorB21b
set_option maxRecDepth 100000
set_option maxHeartbeats 4000000
set_option linter.unusedVariables false
namespace Go.Proofs.YtboagabgpcghcaaDoor
open Go.Sh
abbrev Ty1 := Int × List (Bool × List UInt32) × UInt32 × Bool × UInt32 × Bool × UInt32 × Bool × Bool × UInt32 × UInt32 × List UInt32 × List (Int × List UInt8)
abbrev ks_int_u8 : List Kd := [Kd.int .u8]
abbrev ks_int_u32_int_i64 : List Kd := [Kd.int .u32, Kd.int .i64]
abbrev ks_int_u32 : List Kd := [Kd.int .u32]
abbrev ks_bool_lst_int_u32 : List Kd := [Kd.bool, Kd.lst [Kd.int .u32]]
abbrev ks_int_i64_lst_int_u8 : List Kd := [Kd.int .i64, Kd.lst [Kd.int .u8]]
abbrev ks_lst_int_u8 : List Kd := [Kd.lst [Kd.int .u8]]
def plan_upd_get16 : PPlan := ⟨[], [], [], [], [], []⟩
theorem k_upd_get16 : Known Tryd.prog f_upd_get16 Tryd.f25 plan_upd_get16.plan (bodyOf Tryd.f25) := by refine ⟨Tryd.func25, ?_, ?_, ?_, ?_, ?_⟩ <;> kernel_rfl
abbrev upd_get16_ps : List Pk := [Pk.lst [Kd.int .u8]]
abbrev upd_get16_rs : List Pk := [Pk.int .i64]
def upd_get16_q (b0 : List UInt8) (K : Int → Prop) : Prop :=
 (0 : Int) ≤ 0 ∧ AtN b0 0 fun x4 =>
 WfT ks_int_u8 x4 →
 (0 : Int) ≤ 8 ∧
 (0 : Int) ≤ 1 ∧ AtN b0 1 fun x9 =>
 WfT ks_int_u8 x9 →
 K (bitsOr .i64 (IntKind.wrap .i64 ((IntKind.wrap .i64 (x4.toNat : Int)) * 256)) (IntKind.wrap .i64 (x9.toNat : Int)))
noncomputable def tab_upd_get16 : Tab := ⟨[], []⟩
abbrev upd_get16_L (x : PkTs upd_get16_ps) (K : PkTs upd_get16_rs → Prop) : Prop := upd_get16_q x.1 (fun r0 => K (r0, ()))
theorem upd_get16_eq : upd_get16_L = fun x K => PCode Tryd.prog tab_upd_get16 plan_upd_get16 (bodyOf Tryd.f25) (parS upd_get16_ps x) (PRet Tryd.prog Tryd.f25.results.toList fun a st => outP upd_get16_rs st a K) := by kernel_rfl
theorem upd_get16_fq : FnQ Tryd.prog f_upd_get16 upd_get16_ps upd_get16_rs upd_get16_L := (fnQ_of k_upd_get16 (tab := tab_upd_get16) ⟨trivial, trivial⟩ rfl).of_eq upd_get16_eq
noncomputable def ct_upd_get16 : Ct := ctRd upd_get16_ps upd_get16_rs upd_get16_L
theorem ct_upd_get16_ok : SoundCt Tryd.prog f_upd_get16 ct_upd_get16 := ctRd_sound upd_get16_fq
def plan_upd_part : PPlan := ⟨[], [], [], [], [], []⟩
theorem k_upd_part : Known Tryd.prog f_upd_part Tryd.f14 plan_upd_part.plan (bodyOf Tryd.f14) := by refine ⟨Tryd.func14, ?_, ?_, ?_, ?_, ?_⟩ <;> kernel_rfl
abbrev upd_part_ps : List Pk := [Pk.lst [Kd.int .u8]]
abbrev upd_part_rs : List Pk := [Pk.lst [Kd.int .u8], Pk.lst [Kd.int .u8], Pk.bool]
def upd_part_j0 (b0 : List UInt8) (j1 : Bool) (K : List UInt8 → List UInt8 → Bool → Prop) : Prop :=
 IfB j1
 (K ([] : List UInt8) ([] : List UInt8) false)
 ((WfPs upd_get16_ps (b0, ()) →
 upd_get16_q b0 (fun x18 =>
 WfPs upd_get16_rs (x18, ()) →
 (0 : Int) ≤ (IntKind.wrap .i64 (2 + x18)) ∧ (IntKind.wrap .i64 (2 + x18)) ≤ (b0.length : Int) ∧
 (0 : Int) ≤ 2 ∧ 2 ≤ ((IntKind.wrap .i64 (2 + x18)).toNat : Int) ∧
 (0 : Int) ≤ (IntKind.wrap .i64 (2 + x18)) ∧ (IntKind.wrap .i64 (2 + x18)) ≤ (b0.length : Int) ∧
 K ((b0.take ((IntKind.wrap .i64 (2 + x18)).toNat)).drop 2) (b0.drop ((IntKind.wrap .i64 (2 + x18)).toNat)) true)))
def upd_part_q (b0 : List UInt8) (K : List UInt8 → List UInt8 → Bool → Prop) : Prop :=
 IfB (decide (((b0.length : Int) : Int) < 2))
 (upd_part_j0 b0 true K)
 ((WfPs upd_get16_ps (b0, ()) →
 upd_get16_q b0 (fun x11 =>
 WfPs upd_get16_rs (x11, ()) →
 upd_part_j0 b0 (decide ((x11 : Int) > (IntKind.wrap .i64 ((b0.length : Int) - 2)))) K)))
noncomputable def tab_upd_part : Tab := ⟨[(f_upd_get16, ct_upd_get16)], []⟩
abbrev upd_part_L (x : PkTs upd_part_ps) (K : PkTs upd_part_rs → Prop) : Prop := upd_part_q x.1 (fun r0 r1 r2 => K (r0, r1, r2, ()))
theorem upd_part_eq : upd_part_L = fun x K => PCode Tryd.prog tab_upd_part plan_upd_part (bodyOf Tryd.f14) (parS upd_part_ps x) (PRet Tryd.prog Tryd.f14.results.toList fun a st => outP upd_part_rs st a K) := by kernel_rfl
theorem upd_part_fq : FnQ Tryd.prog f_upd_part upd_part_ps upd_part_rs upd_part_L := (fnQ_of k_upd_part (tab := tab_upd_part) ⟨⟨ct_upd_get16_ok, trivial⟩, trivial⟩ rfl).of_eq upd_part_eq
noncomputable def ct_upd_part : Ct := ctVal upd_part_ps upd_part_rs upd_part_L
theorem ct_upd_part_ok : SoundCt Tryd.prog f_upd_part ct_upd_part := ctVal_sound upd_part_fq
def plan_upd_wrong : PPlan := ⟨[], [], [], [], [], []⟩
theorem k_upd_wrong : Known Tryd.prog f_upd_wrong Tryd.f15 plan_upd_wrong.plan (bodyOf Tryd.f15) := by refine ⟨Tryd.func15, ?_, ?_, ?_, ?_, ?_⟩ <;> kernel_rfl
abbrev upd_wrong_ps : List Pk := [Pk.int .i64]
abbrev upd_wrong_rs : List Pk := [Pk.agg [Kd.lst [Kd.int .u32, Kd.int .i64], Kd.lst [Kd.int .u32, Kd.int .i64], Kd.int .i64, Kd.lst [Kd.bool, Kd.lst [Kd.int .u32]], Kd.int .u32, Kd.bool, Kd.int .u32, Kd.bool, Kd.int .u32, Kd.bool, Kd.bool, Kd.int .u32, Kd.int .u32, Kd.lst [Kd.int .u32], Kd.lst [Kd.int .i64, Kd.lst [Kd.int .u8]], Kd.int .i64], Pk.agg [Kd.int .i64, Kd.int .i64, Kd.lst [Kd.int .u8]], Pk.bool]
def upd_wrong_q (sub0 : Int) (K : List (UInt32 × Int) × List (UInt32 × Int) × Int × List (Bool × List UInt32) × UInt32 × Bool × UInt32 × Bool × UInt32 × Bool × Bool × UInt32 × UInt32 × List UInt32 × List (Int × List UInt8) × Int → (Int × Int × List UInt8) → Bool → Prop) : Prop :=
 K (([] : List (UInt32 × Int)), ([] : List (UInt32 × Int)), 0, ([] : List (Bool × List UInt32)), (ofI .u32 0), false, (ofI .u32 0), false, (ofI .u32 0), false, false, (ofI .u32 0), (ofI .u32 0), ([] : List UInt32), ([] : List (Int × List UInt8)), 0) (3, sub0, ([] : List UInt8)) false
noncomputable def tab_upd_wrong : Tab := ⟨[], []⟩
abbrev upd_wrong_L (x : PkTs upd_wrong_ps) (K : PkTs upd_wrong_rs → Prop) : Prop := upd_wrong_q x.1 (fun r0 r1 r2 => K (r0, r1, r2, ()))
theorem upd_wrong_eq : upd_wrong_L = fun x K => PCode Tryd.prog tab_upd_wrong plan_upd_wrong (bodyOf Tryd.f15) (parS upd_wrong_ps x) (PRet Tryd.prog Tryd.f15.results.toList fun a st => outP upd_wrong_rs st a K) := by kernel_rfl
theorem upd_wrong_fq : FnQ Tryd.prog f_upd_wrong upd_wrong_ps upd_wrong_rs upd_wrong_L := (fnQ_of k_upd_wrong (tab := tab_upd_wrong) ⟨trivial, trivial⟩ rfl).of_eq upd_wrong_eq
noncomputable def ct_upd_wrong : Ct := ctVal upd_wrong_ps upd_wrong_rs upd_wrong_L
theorem ct_upd_wrong_ok : SoundCt Tryd.prog f_upd_wrong ct_upd_wrong := ctVal_sound upd_wrong_fq
def plan_upd_mask : PPlan := ⟨[], [], [], [], [], []⟩
theorem k_upd_mask : Known Tryd.prog f_upd_mask Tryd.f18 plan_upd_mask.plan (bodyOf Tryd.f18) := by refine ⟨Tryd.func18, ?_, ?_, ?_, ?_, ?_⟩ <;> kernel_rfl
abbrev upd_mask_ps : List Pk := [Pk.int .u32, Pk.int .i64]
abbrev upd_mask_rs : List Pk := [Pk.int .u32]
def upd_mask_q (a0 : Int) (n1 : Int) (K : Int → Prop) : Prop :=
 (0 : Int) ≤ (IntKind.wrap .i64 (32 - n1)) ∧
 K (bitsAndNot .u32 a0 (IntKind.wrap .u32 (IntKind.wrap .u64 ((IntKind.wrap .u64 (1 * (2 ^ (min ((IntKind.wrap .i64 (32 - n1)) : Int).toNat (IntKind.bits .u64))))) - 1))))
noncomputable def tab_upd_mask : Tab := ⟨[], []⟩
abbrev upd_mask_L (x : PkTs upd_mask_ps) (K : PkTs upd_mask_rs → Prop) : Prop := upd_mask_q x.1 x.2.1 (fun r0 => K (r0, ()))
theorem upd_mask_eq : upd_mask_L = fun x K => PCode Tryd.prog tab_upd_mask plan_upd_mask (bodyOf Tryd.f18) (parS upd_mask_ps x) (PRet Tryd.prog Tryd.f18.results.toList fun a st => outP upd_mask_rs st a K) := by kernel_rfl
theorem upd_mask_fq : FnQ Tryd.prog f_upd_mask upd_mask_ps upd_mask_rs upd_mask_L := (fnQ_of k_upd_mask (tab := tab_upd_mask) ⟨trivial, trivial⟩ rfl).of_eq upd_mask_eq
noncomputable def ct_upd_mask : Ct := ctRd upd_mask_ps upd_mask_rs upd_mask_L
theorem ct_upd_mask_ok : SoundCt Tryd.prog f_upd_mask ct_upd_mask := ctRd_sound upd_mask_fq
def plan_upd_octets : PPlan := ⟨[], [], [], [], [], []⟩
theorem k_upd_octets : Known Tryd.prog f_upd_octets Tryd.f32 plan_upd_octets.plan (bodyOf Tryd.f32) := by refine ⟨Tryd.func32, ?_, ?_, ?_, ?_, ?_⟩ <;> kernel_rfl
abbrev upd_octets_ps : List Pk := [Pk.int .i64]
abbrev upd_octets_rs : List Pk := [Pk.int .i64]
def upd_octets_q (n0 : Int) (K : Int → Prop) : Prop :=
 (8 : Int) ≠ 0 ∧
 K (IntKind.wrap .i64 (Int.tdiv (IntKind.wrap .i64 ((IntKind.wrap .i64 (n0 + 8)) - 1)) 8))
noncomputable def tab_upd_octets : Tab := ⟨[], []⟩
abbrev upd_octets_L (x : PkTs upd_octets_ps) (K : PkTs upd_octets_rs → Prop) : Prop := upd_octets_q x.1 (fun r0 => K (r0, ()))
theorem upd_octets_eq : upd_octets_L = fun x K => PCode Tryd.prog tab_upd_octets plan_upd_octets (bodyOf Tryd.f32) (parS upd_octets_ps x) (PRet Tryd.prog Tryd.f32.results.toList fun a st => outP upd_octets_rs st a K) := by kernel_rfl
theorem upd_octets_fq : FnQ Tryd.prog f_upd_octets upd_octets_ps upd_octets_rs upd_octets_L := (fnQ_of k_upd_octets (tab := tab_upd_octets) ⟨trivial, trivial⟩ rfl).of_eq upd_octets_eq
noncomputable def ct_upd_octets : Ct := ctRd upd_octets_ps upd_octets_rs upd_octets_L
theorem ct_upd_octets_ok : SoundCt Tryd.prog f_upd_octets ct_upd_octets := ctRd_sound upd_octets_fq
def plan_upd_prefixes : PPlan := ⟨[], [], [], [], [], []⟩
theorem k_upd_prefixes : Known Tryd.prog f_upd_prefixes Tryd.f31 plan_upd_prefixes.plan (bodyOf Tryd.f31) := by refine ⟨Tryd.func31, ?_, ?_, ?_, ?_, ?_⟩ <;> kernel_rfl
noncomputable def tab_upd_prefixes : Tab := ⟨[], []⟩
noncomputable def ct_upd_prefixes : Ct := ctInl Tryd.prog tab_upd_prefixes plan_upd_prefixes (bodyOf Tryd.f31) Tryd.f31.ntmps Tryd.f31.results.toList
theorem ct_upd_prefixes_ok : SoundCt Tryd.prog f_upd_prefixes ct_upd_prefixes := ctInl_sound k_upd_prefixes ⟨trivial, trivial⟩
def pl_upd_all_4000003 : PLoop := ⟨[], [2, 3, 4], [(2, [PK.row T_api_Prefix [Kd.int .u32, Kd.int .i64]]), (3, [PK.bool]), (4, [PK.row T_api_Prefix [Kd.int .u32, Kd.int .i64]])]⟩
def plan_upd_all : PPlan := ⟨[], [(4000003, pl_upd_all_4000003)], [], [], [], []⟩
theorem k_upd_all : Known Tryd.prog f_upd_all Tryd.f17 plan_upd_all.plan (bodyOf Tryd.f17) := by refine ⟨Tryd.func17, ?_, ?_, ?_, ?_, ?_⟩ <;> kernel_rfl
abbrev upd_all_ps : List Pk := [Pk.lst [Kd.int .u8]]
abbrev upd_all_rs : List Pk := [Pk.own T_api_Prefix [Kd.int .u32, Kd.int .i64], Pk.bool]
def upd_all_e4000003 (c0 : List (UInt32 × Int)) (c0_1 : Bool) (c0_2 : List (UInt32 × Int)) (K : List (UInt32 × Int) → Bool → Prop) : Prop :=
 K c0_2 true
def upd_all_l4000003 (c0_3 : List (UInt32 × Int)) (c0_4 : Bool) (c0_5 : List (UInt32 × Int)) (x9 : UInt32 × Int) (x10 : Bool) (next4000003 : (List (UInt32 × Int) × Bool × List (UInt32 × Int) × Unit) → Prop) (K : List (UInt32 × Int) → Bool → Prop) : Prop :=
 IfB (!x10)
 (K ([] : List (UInt32 × Int)) false)
 (c0_5.length + ([((ofI .u32 (x9.1.toNat : Int)), x9.2)] : List (UInt32 × Int)).length ≤ 8796093022112 ∧
 next4000003 (c0_3, c0_4, (c0_5 ++ ([((ofI .u32 (x9.1.toNat : Int)), x9.2)] : List (UInt32 × Int))), ()))
def upd_all_q (b0 : List UInt8) (K : List (UInt32 × Int) → Bool → Prop) : Prop :=
 it_prefixes.pre (b0, ()) ∧
 EachJ (fun (y : (List (UInt32 × Int) × Bool × List (UInt32 × Int) × Unit)) => WfY pl_upd_all_4000003.kinds y → upd_all_e4000003 y.1 y.2.1 y.2.2.1 K)
 (fun (y : (List (UInt32 × Int) × Bool × List (UInt32 × Int) × Unit)) (x : ((UInt32 × Int) × Bool × Unit)) (next : (List (UInt32 × Int) × Bool × List (UInt32 × Int) × Unit) → Prop) => WfY pl_upd_all_4000003.kinds y → WfPs it_prefixes.ps x → upd_all_l4000003 y.1 y.2.1 y.2.2.1 x.1 x.2.1 next K) (it_prefixes.xs (b0, ())) (([] : List (UInt32 × Int)), false, ([] : List (UInt32 × Int)), ())
noncomputable def tab_upd_all : Tab := ⟨[(f_upd_prefixes, ct_upd_prefixes)], [(f_upd_prefixes_1, it_prefixes)]⟩
abbrev upd_all_L (x : PkTs upd_all_ps) (K : PkTs upd_all_rs → Prop) : Prop := upd_all_q x.1 (fun r0 r1 => K (r0, r1, ()))
theorem upd_all_eq : upd_all_L = fun x K => PCode Tryd.prog tab_upd_all plan_upd_all (bodyOf Tryd.f17) (parS upd_all_ps x) (PRet Tryd.prog Tryd.f17.results.toList fun a st => outP upd_all_rs st a K) := by kernel_rfl
theorem upd_all_fq : FnQ Tryd.prog f_upd_all upd_all_ps upd_all_rs upd_all_L := (fnQ_of k_upd_all (tab := tab_upd_all) ⟨⟨ct_upd_prefixes_ok, trivial⟩, ⟨it_prefixes_ok, trivial⟩⟩ rfl).of_eq upd_all_eq
noncomputable def ct_upd_all : Ct := ctVal upd_all_ps upd_all_rs upd_all_L
theorem ct_upd_all_ok : SoundCt Tryd.prog f_upd_all ct_upd_all := ctVal_sound upd_all_fq
def plan_upd_Read : PPlan := ⟨[(9, [0, 1, 2, 3, 4], [56]), (18, [0, 1, 2, 3, 4, 5], [91])], [], [], [(9, [4]), (18, [15])], [], []⟩
theorem k_upd_Read : Known Tryd.prog f_upd_Read Tryd.f6 plan_upd_Read.plan (bodyOf Tryd.f6) := by refine ⟨Tryd.func6, ?_, ?_, ?_, ?_, ?_⟩ <;> kernel_rfl
abbrev upd_Read_ps : List Pk := [Pk.lst [Kd.int .u8], Pk.bool]
abbrev upd_Read_rs : List Pk := [Pk.agg [Kd.lst [Kd.int .u32, Kd.int .i64], Kd.lst [Kd.int .u32, Kd.int .i64], Kd.int .i64, Kd.lst [Kd.bool, Kd.lst [Kd.int .u32]], Kd.int .u32, Kd.bool, Kd.int .u32, Kd.bool, Kd.int .u32, Kd.bool, Kd.bool, Kd.int .u32, Kd.int .u32, Kd.lst [Kd.int .u32], Kd.lst [Kd.int .i64, Kd.lst [Kd.int .u8]], Kd.int .i64], Pk.agg [Kd.int .i64, Kd.int .i64, Kd.lst [Kd.int .u8]], Pk.bool]
def upd_Read_j1 (x49r1 : Int) (j20 : List (UInt32 × Int)) (j21 : Int) (j22 : List (Bool × List UInt32)) (j23 : Int) (j24 : Bool) (j25 : Int) (j26 : Bool) (j27 : Int) (j28 : Bool) (j29 : Bool) (j30 : Int) (j31 : Int) (j32 : List UInt32) (j33 : List (Int × List UInt8)) (j35 : List (UInt32 × Int)) (K : List (UInt32 × Int) × List (UInt32 × Int) × Int × List (Bool × List UInt32) × UInt32 × Bool × UInt32 × Bool × UInt32 × Bool × Bool × UInt32 × UInt32 × List UInt32 × List (Int × List UInt8) × Int → (Int × Int × List UInt8) → Bool → Prop) : Prop :=
 K (j35, j20, j21, j22, (ofI .u32 j23), j24, (ofI .u32 j25), j26, (ofI .u32 j27), j28, j29, (ofI .u32 j30), (ofI .u32 j31), j32, j33, x49r1) (0, 0, ([] : List UInt8)) true
def upd_Read_j0 (x49r0 : Ty1) (x49r1 : Int) (x61r0 : List (UInt32 × Int)) (x66r0 : List (UInt32 × Int)) (j51 : Bool) (K : List (UInt32 × Int) × List (UInt32 × Int) × Int × List (Bool × List UInt32) × UInt32 × Bool × UInt32 × Bool × UInt32 × Bool × Bool × UInt32 × UInt32 × List UInt32 × List (Int × List UInt8) × Int → (Int × Int × List UInt8) → Bool → Prop) : Prop :=
 IfB j51
 ((WfPs upd_wrong_ps ((10 : Int), ()) →
 upd_wrong_q (10 : Int) (fun x76r0 x76r1 x76r2 =>
 WfPs upd_wrong_rs (x76r0, x76r1, x76r2, ()) →
 K (x76r0.1, x76r0.2.1, x76r0.2.2.1, x76r0.2.2.2.1, (ofI .u32 (x76r0.2.2.2.2.1.toNat : Int)), x76r0.2.2.2.2.2.1, (ofI .u32 (x76r0.2.2.2.2.2.2.1.toNat : Int)), x76r0.2.2.2.2.2.2.2.1, (ofI .u32 (x76r0.2.2.2.2.2.2.2.2.1.toNat : Int)), x76r0.2.2.2.2.2.2.2.2.2.1, x76r0.2.2.2.2.2.2.2.2.2.2.1, (ofI .u32 (x76r0.2.2.2.2.2.2.2.2.2.2.2.1.toNat : Int)), (ofI .u32 (x76r0.2.2.2.2.2.2.2.2.2.2.2.2.1.toNat : Int)), x76r0.2.2.2.2.2.2.2.2.2.2.2.2.2.1, x76r0.2.2.2.2.2.2.2.2.2.2.2.2.2.2.1, x76r0.2.2.2.2.2.2.2.2.2.2.2.2.2.2.2) x76r1 x76r2)))
 (IfB ((x49r1 : Int) == 2)
 (x61r0.length + x66r0.length ≤ 8796093022112 ∧
 upd_Read_j1 x49r1 ([] : List (UInt32 × Int)) 0 ([] : List (Bool × List UInt32)) 0 false 0 false 0 false false 0 0 ([] : List UInt32) ([] : List (Int × List UInt8)) (x61r0 ++ x66r0) K)
 (IfB (decide (((x66r0.length : Int) : Int) > 0))
 (upd_Read_j1 x49r1 x66r0 x49r0.1 x49r0.2.1 (x49r0.2.2.1.toNat : Int) x49r0.2.2.2.1 (x49r0.2.2.2.2.1.toNat : Int) x49r0.2.2.2.2.2.1 (x49r0.2.2.2.2.2.2.1.toNat : Int) x49r0.2.2.2.2.2.2.2.1 x49r0.2.2.2.2.2.2.2.2.1 (x49r0.2.2.2.2.2.2.2.2.2.1.toNat : Int) (x49r0.2.2.2.2.2.2.2.2.2.2.1.toNat : Int) x49r0.2.2.2.2.2.2.2.2.2.2.2.1 x49r0.2.2.2.2.2.2.2.2.2.2.2.2 x61r0 K)
 (upd_Read_j1 x49r1 ([] : List (UInt32 × Int)) 0 ([] : List (Bool × List UInt32)) 0 false 0 false 0 false false 0 0 ([] : List UInt32) ([] : List (Int × List UInt8)) x61r0 K)))
def upd_Read_q (b0 : List UInt8) (four1 : Bool) (K : List (UInt32 × Int) × List (UInt32 × Int) × Int × List (Bool × List UInt32) × UInt32 × Bool × UInt32 × Bool × UInt32 × Bool × Bool × UInt32 × UInt32 × List UInt32 × List (Int × List UInt8) × Int → (Int × Int × List UInt8) → Bool → Prop) : Prop :=
 (WfPs upd_part_ps (b0, ()) →
 upd_part_q b0 (fun x21r0 x21r1 x21r2 =>
 WfPs upd_part_rs (x21r0, x21r1, x21r2, ()) →
 IfB (!x21r2)
 ((WfPs upd_wrong_ps ((1 : Int), ()) →
 upd_wrong_q (1 : Int) (fun x27r0 x27r1 x27r2 =>
 WfPs upd_wrong_rs (x27r0, x27r1, x27r2, ()) →
 K (x27r0.1, x27r0.2.1, x27r0.2.2.1, x27r0.2.2.2.1, (ofI .u32 (x27r0.2.2.2.2.1.toNat : Int)), x27r0.2.2.2.2.2.1, (ofI .u32 (x27r0.2.2.2.2.2.2.1.toNat : Int)), x27r0.2.2.2.2.2.2.2.1, (ofI .u32 (x27r0.2.2.2.2.2.2.2.2.1.toNat : Int)), x27r0.2.2.2.2.2.2.2.2.2.1, x27r0.2.2.2.2.2.2.2.2.2.2.1, (ofI .u32 (x27r0.2.2.2.2.2.2.2.2.2.2.2.1.toNat : Int)), (ofI .u32 (x27r0.2.2.2.2.2.2.2.2.2.2.2.2.1.toNat : Int)), x27r0.2.2.2.2.2.2.2.2.2.2.2.2.2.1, x27r0.2.2.2.2.2.2.2.2.2.2.2.2.2.2.1, x27r0.2.2.2.2.2.2.2.2.2.2.2.2.2.2.2) x27r1 x27r2)))
 ((WfPs upd_part_ps (x21r1, ()) →
 upd_part_q x21r1 (fun x33r0 x33r1 x33r2 =>
 WfPs upd_part_rs (x33r0, x33r1, x33r2, ()) →
 IfB (!x33r2)
 ((WfPs upd_wrong_ps ((1 : Int), ()) →
 upd_wrong_q (1 : Int) (fun x39r0 x39r1 x39r2 =>
 WfPs upd_wrong_rs (x39r0, x39r1, x39r2, ()) →
 K (x39r0.1, x39r0.2.1, x39r0.2.2.1, x39r0.2.2.2.1, (ofI .u32 (x39r0.2.2.2.2.1.toNat : Int)), x39r0.2.2.2.2.2.1, (ofI .u32 (x39r0.2.2.2.2.2.2.1.toNat : Int)), x39r0.2.2.2.2.2.2.2.1, (ofI .u32 (x39r0.2.2.2.2.2.2.2.2.1.toNat : Int)), x39r0.2.2.2.2.2.2.2.2.2.1, x39r0.2.2.2.2.2.2.2.2.2.2.1, (ofI .u32 (x39r0.2.2.2.2.2.2.2.2.2.2.2.1.toNat : Int)), (ofI .u32 (x39r0.2.2.2.2.2.2.2.2.2.2.2.2.1.toNat : Int)), x39r0.2.2.2.2.2.2.2.2.2.2.2.2.2.1, x39r0.2.2.2.2.2.2.2.2.2.2.2.2.2.2.1, x39r0.2.2.2.2.2.2.2.2.2.2.2.2.2.2.2) x39r1 x39r2)))
 ((WfPs attr_Read_ps (x33r0, four1, (decide (((x33r1.length : Int) : Int) > 0)), ()) →
 attr_Read_q x33r0 four1 (decide (((x33r1.length : Int) : Int) > 0)) (fun x49r0 x49r1 x49r2 =>
 WfPs attr_Read_rs (x49r0, x49r1, x49r2, ()) →
 IfB ((x49r1 : Int) == 3)
 (K (([] : List (UInt32 × Int)), ([] : List (UInt32 × Int)), 0, ([] : List (Bool × List UInt32)), (ofI .u32 0), false, (ofI .u32 0), false, (ofI .u32 0), false, false, (ofI .u32 0), (ofI .u32 0), ([] : List UInt32), ([] : List (Int × List UInt8)), 0) x49r2 false)
 ((WfPs upd_all_ps (x21r0, ()) →
 upd_all_q x21r0 (fun x61r0 x61r1 =>
 WfPs upd_all_rs (x61r0, x61r1, ()) →
 (WfPs upd_all_ps (x33r1, ()) →
 upd_all_q x33r1 (fun x66r0 x66r1 =>
 WfPs upd_all_rs (x66r0, x66r1, ()) →
 IfB (!x61r1)
 (upd_Read_j0 x49r0 x49r1 x61r0 x66r0 true K)
 (upd_Read_j0 x49r0 x49r1 x61r0 x66r0 (!x66r1) K))))))))))))))
noncomputable def tab_upd_Read : Tab := ⟨[(f_upd_part, ct_upd_part), (f_upd_wrong, ct_upd_wrong), (f_attr_Read, ct_attr_Read), (f_upd_all, ct_upd_all)], []⟩
abbrev upd_Read_L (x : PkTs upd_Read_ps) (K : PkTs upd_Read_rs → Prop) : Prop := upd_Read_q x.1 x.2.1 (fun r0 r1 r2 => K (r0, r1, r2, ()))
theorem upd_Read_eq : upd_Read_L = fun x K => PCode Tryd.prog tab_upd_Read plan_upd_Read (bodyOf Tryd.f6) (parS upd_Read_ps x) (PRet Tryd.prog Tryd.f6.results.toList fun a st => outP upd_Read_rs st a K) := by kernel_rfl
theorem upd_Read_fq : FnQ Tryd.prog f_upd_Read upd_Read_ps upd_Read_rs upd_Read_L := (fnQ_of k_upd_Read (tab := tab_upd_Read) ⟨⟨ct_upd_part_ok, ct_upd_wrong_ok, ct_attr_Read_ok, ct_upd_all_ok, trivial⟩, trivial⟩ rfl).of_eq upd_Read_eq
noncomputable def ct_upd_Read : Ct := ctVal upd_Read_ps upd_Read_rs upd_Read_L
theorem ct_upd_Read_ok : SoundCt Tryd.prog f_upd_Read ct_upd_Read := ctVal_sound upd_Read_fq
def plan_upd_Right : PPlan := ⟨[(1, [0, 1, 2, 3, 4, 5, 6, 7, 8, 9, 10, 11, 12, 14, 15, 13, 16, 17, 18], [18])], [], [], [], [], []⟩
theorem k_upd_Right : Known Tryd.prog f_upd_Right Tryd.f8 plan_upd_Right.plan (bodyOf Tryd.f8) := by refine ⟨Tryd.func8, ?_, ?_, ?_, ?_, ?_⟩ <;> kernel_rfl
abbrev upd_Right_ps : List Pk := [Pk.agg [Kd.int .u32, Kd.int .i64]]
abbrev upd_Right_rs : List Pk := [Pk.bool]
def upd_Right_q (p0 : UInt32 × Int) (K : Bool → Prop) : Prop :=
 IfB (decide ((p0.2 : Int) ≥ 0))
 (IfB (decide ((p0.2 : Int) ≤ 32))
 ((WfPs upd_mask_ps ((p0.1.toNat : Int), p0.2, ()) →
 upd_mask_q (p0.1.toNat : Int) p0.2 (fun x16 =>
 WfPs upd_mask_rs (x16, ()) →
 K ((x16 : Int) == (p0.1.toNat : Int)))))
 (K false))
 (K false)
noncomputable def tab_upd_Right : Tab := ⟨[(f_upd_mask, ct_upd_mask)], []⟩
abbrev upd_Right_L (x : PkTs upd_Right_ps) (K : PkTs upd_Right_rs → Prop) : Prop := upd_Right_q x.1 (fun r0 => K (r0, ()))
theorem upd_Right_eq : upd_Right_L = fun x K => PCode Tryd.prog tab_upd_Right plan_upd_Right (bodyOf Tryd.f8) (parS upd_Right_ps x) (PRet Tryd.prog Tryd.f8.results.toList fun a st => outP upd_Right_rs st a K) := by kernel_rfl
theorem upd_Right_fq : FnQ Tryd.prog f_upd_Right upd_Right_ps upd_Right_rs upd_Right_L := (fnQ_of k_upd_Right (tab := tab_upd_Right) ⟨⟨ct_upd_mask_ok, trivial⟩, trivial⟩ rfl).of_eq upd_Right_eq
noncomputable def ct_upd_Right : Ct := ctRd upd_Right_ps upd_Right_rs upd_Right_L
theorem ct_upd_Right_ok : SoundCt Tryd.prog f_upd_Right ct_upd_Right := ctRd_sound upd_Right_fq
def pl_upd_put_3 : PLoop := ⟨[(4, PK.row T_uint8 [Kd.int .u8]), (10, PK.int .i64)], [8, 9], []⟩
def pl_upd_put_9 : PLoop := ⟨[(4, PK.row T_uint8 [Kd.int .u8]), (26, PK.int .i64)], [6, 8, 9, 10, 25], []⟩
def plan_upd_put : PPlan := ⟨[], [(3, pl_upd_put_3), (9, pl_upd_put_9)], [], [], [], []⟩
theorem k_upd_put : Known Tryd.prog f_upd_put Tryd.f19 plan_upd_put.plan (bodyOf Tryd.f19) := by refine ⟨Tryd.func19, ?_, ?_, ?_, ?_, ?_⟩ <;> kernel_rfl
abbrev upd_put_ps : List Pk := [Pk.lst [Kd.int .u32, Kd.int .i64]]
abbrev upd_put_rs : List Pk := [Pk.own T_uint8 [Kd.int .u8], Pk.bool]
def upd_put_l9 (x12 : UInt32 × Int) (l0 : List (UInt32 × Int)) (x10 : Int) (x25 : Int) (next3 : (List UInt8 × Int × Unit) → Prop) (b4_1 : List UInt8) (x26 : Int) (next9 : (List UInt8 × Int × Unit) → Prop) (K : List UInt8 → Bool → Prop) : Prop :=
 IfB (decide ((x26 : Int) < x25))
 ((0 : Int) ≤ (IntKind.wrap .i64 (24 - (IntKind.wrap .i64 (8 * x26)))) ∧
 b4_1.length + ([(ofI .u8 (IntKind.wrap .u8 (Int.fdiv (x12.1.toNat : Int) (2 ^ (min ((IntKind.wrap .i64 (24 - (IntKind.wrap .i64 (8 * x26)))) : Int).toNat (IntKind.bits .u32))))))] : List UInt8).length ≤ 140737488355232 ∧
 next9 ((b4_1 ++ ([(ofI .u8 (IntKind.wrap .u8 (Int.fdiv (x12.1.toNat : Int) (2 ^ (min ((IntKind.wrap .i64 (24 - (IntKind.wrap .i64 (8 * x26)))) : Int).toNat (IntKind.bits .u32))))))] : List UInt8)), (IntKind.wrap .i64 (x26 + 1)), ()))
 (next3 (b4_1, (IntKind.wrap .i64 (x10 + 1)), ()))
def upd_put_l3 (l0 : List (UInt32 × Int)) (b4 : List UInt8) (x10 : Int) (next3 : (List UInt8 × Int × Unit) → Prop) (K : List UInt8 → Bool → Prop) : Prop :=
 IfB (decide ((x10 : Int) < (l0.length : Int)))
 ((0 : Int) ≤ x10 ∧ AtN l0 x10.toNat fun x12 =>
 WfT ks_int_u32_int_i64 x12 →
 (WfPs upd_Right_ps ((((ofI .u32 (x12.1.toNat : Int)), x12.2) : UInt32 × Int), ()) →
 upd_Right_q (((ofI .u32 (x12.1.toNat : Int)), x12.2) : UInt32 × Int) (fun x15 =>
 WfPs upd_Right_rs (x15, ()) →
 IfB (!x15)
 (K ([] : List UInt8) false)
 (b4.length + ([(ofI .u8 (IntKind.wrap .u8 x12.2))] : List UInt8).length ≤ 140737488355232 ∧
 (WfPs upd_octets_ps (x12.2, ()) →
 upd_octets_q x12.2 (fun x25 =>
 WfPs upd_octets_rs (x25, ()) →
 LoopJ (List UInt8 × Int × Unit) ((b4 ++ ([(ofI .u8 (IntKind.wrap .u8 x12.2))] : List UInt8)), (0 : Int), ()) fun y next =>
 WfY pl_upd_put_9.kinds y →
 upd_put_l9 x12 l0 x10 x25 next3 y.1 y.2.1 next K))))))
 (K b4 true)
def upd_put_q (l0 : List (UInt32 × Int)) (K : List UInt8 → Bool → Prop) : Prop :=
 LoopJ (List UInt8 × Int × Unit) (([] : List UInt8), (0 : Int), ()) fun y next =>
 WfY pl_upd_put_3.kinds y →
 upd_put_l3 l0 y.1 y.2.1 next K
noncomputable def tab_upd_put : Tab := ⟨[(f_upd_Right, ct_upd_Right), (f_upd_octets, ct_upd_octets)], []⟩
abbrev upd_put_L (x : PkTs upd_put_ps) (K : PkTs upd_put_rs → Prop) : Prop := upd_put_q x.1 (fun r0 r1 => K (r0, r1, ()))
theorem upd_put_eq : upd_put_L = fun x K => PCode Tryd.prog tab_upd_put plan_upd_put (bodyOf Tryd.f19) (parS upd_put_ps x) (PRet Tryd.prog Tryd.f19.results.toList fun a st => outP upd_put_rs st a K) := by kernel_rfl
theorem upd_put_fq : FnQ Tryd.prog f_upd_put upd_put_ps upd_put_rs upd_put_L := (fnQ_of k_upd_put (tab := tab_upd_put) ⟨⟨ct_upd_Right_ok, ct_upd_octets_ok, trivial⟩, trivial⟩ rfl).of_eq upd_put_eq
noncomputable def ct_upd_put : Ct := ctVal upd_put_ps upd_put_rs upd_put_L
theorem ct_upd_put_ok : SoundCt Tryd.prog f_upd_put ct_upd_put := ctVal_sound upd_put_fq
def pl_slices_Indexasl_uint32_uint32_2 : PLoop := ⟨[(8, PK.int .i64)], [0, 1, 7], []⟩
def plan_slices_Indexasl_uint32_uint32 : PPlan := ⟨[], [(2, pl_slices_Indexasl_uint32_uint32_2)], [], [], [], []⟩
theorem k_slices_Indexasl_uint32_uint32 : Known Tryd.prog f_slices_Indexasl_uint32_uint32 Tryd.f97 plan_slices_Indexasl_uint32_uint32.plan (bodyOf Tryd.f97) := by refine ⟨Tryd.func97, ?_, ?_, ?_, ?_, ?_⟩ <;> kernel_rfl
abbrev slices_Indexasl_uint32_uint32_ps : List Pk := [Pk.lst [Kd.int .u32], Pk.int .u32]
abbrev slices_Indexasl_uint32_uint32_rs : List Pk := [Pk.int .i64]
def slices_Indexasl_uint32_uint32_l2 (s0 : List UInt32) (v1 : Int) (x8 : Int) (next2 : (Int × Unit) → Prop) (K : Int → Prop) : Prop :=
 IfB (decide ((x8 : Int) < (s0.length : Int)))
 ((0 : Int) ≤ x8 ∧ AtN s0 x8.toNat fun x14 =>
 WfT ks_int_u32 x14 →
 IfB ((v1 : Int) == (x14.toNat : Int))
 (K x8)
 (next2 ((IntKind.wrap .i64 (x8 + 1)), ())))
 (K (-1))
def slices_Indexasl_uint32_uint32_q (s0 : List UInt32) (v1 : Int) (K : Int → Prop) : Prop :=
 LoopJ (Int × Unit) ((0 : Int), ()) fun y next =>
 WfY pl_slices_Indexasl_uint32_uint32_2.kinds y →
 slices_Indexasl_uint32_uint32_l2 s0 v1 y.1 next K
noncomputable def tab_slices_Indexasl_uint32_uint32 : Tab := ⟨[], []⟩
abbrev slices_Indexasl_uint32_uint32_L (x : PkTs slices_Indexasl_uint32_uint32_ps) (K : PkTs slices_Indexasl_uint32_uint32_rs → Prop) : Prop := slices_Indexasl_uint32_uint32_q x.1 x.2.1 (fun r0 => K (r0, ()))
theorem slices_Indexasl_uint32_uint32_eq : slices_Indexasl_uint32_uint32_L = fun x K => PCode Tryd.prog tab_slices_Indexasl_uint32_uint32 plan_slices_Indexasl_uint32_uint32 (bodyOf Tryd.f97) (parS slices_Indexasl_uint32_uint32_ps x) (PRet Tryd.prog Tryd.f97.results.toList fun a st => outP slices_Indexasl_uint32_uint32_rs st a K) := by kernel_rfl
theorem slices_Indexasl_uint32_uint32_fq : FnQ Tryd.prog f_slices_Indexasl_uint32_uint32 slices_Indexasl_uint32_uint32_ps slices_Indexasl_uint32_uint32_rs slices_Indexasl_uint32_uint32_L := (fnQ_of k_slices_Indexasl_uint32_uint32 (tab := tab_slices_Indexasl_uint32_uint32) ⟨trivial, trivial⟩ rfl).of_eq slices_Indexasl_uint32_uint32_eq
noncomputable def ct_slices_Indexasl_uint32_uint32 : Ct := ctRd slices_Indexasl_uint32_uint32_ps slices_Indexasl_uint32_uint32_rs slices_Indexasl_uint32_uint32_L
theorem ct_slices_Indexasl_uint32_uint32_ok : SoundCt Tryd.prog f_slices_Indexasl_uint32_uint32 ct_slices_Indexasl_uint32_uint32 := ctRd_sound slices_Indexasl_uint32_uint32_fq
def plan_slices_Containsasl_uint32_uint32 : PPlan := ⟨[], [], [], [], [], []⟩
theorem k_slices_Containsasl_uint32_uint32 : Known Tryd.prog f_slices_Containsasl_uint32_uint32 Tryd.f89 plan_slices_Containsasl_uint32_uint32.plan (bodyOf Tryd.f89) := by refine ⟨Tryd.func89, ?_, ?_, ?_, ?_, ?_⟩ <;> kernel_rfl
abbrev slices_Containsasl_uint32_uint32_ps : List Pk := [Pk.lst [Kd.int .u32], Pk.int .u32]
abbrev slices_Containsasl_uint32_uint32_rs : List Pk := [Pk.bool]
def slices_Containsasl_uint32_uint32_q (s0 : List UInt32) (v1 : Int) (K : Bool → Prop) : Prop :=
 (WfPs slices_Indexasl_uint32_uint32_ps (s0, v1, ()) →
 slices_Indexasl_uint32_uint32_q s0 v1 (fun x7 =>
 WfPs slices_Indexasl_uint32_uint32_rs (x7, ()) →
 K (decide ((x7 : Int) ≥ 0))))
noncomputable def tab_slices_Containsasl_uint32_uint32 : Tab := ⟨[(f_slices_Indexasl_uint32_uint32, ct_slices_Indexasl_uint32_uint32)], []⟩
abbrev slices_Containsasl_uint32_uint32_L (x : PkTs slices_Containsasl_uint32_uint32_ps) (K : PkTs slices_Containsasl_uint32_uint32_rs → Prop) : Prop := slices_Containsasl_uint32_uint32_q x.1 x.2.1 (fun r0 => K (r0, ()))
theorem slices_Containsasl_uint32_uint32_eq : slices_Containsasl_uint32_uint32_L = fun x K => PCode Tryd.prog tab_slices_Containsasl_uint32_uint32 plan_slices_Containsasl_uint32_uint32 (bodyOf Tryd.f89) (parS slices_Containsasl_uint32_uint32_ps x) (PRet Tryd.prog Tryd.f89.results.toList fun a st => outP slices_Containsasl_uint32_uint32_rs st a K) := by kernel_rfl
theorem slices_Containsasl_uint32_uint32_fq : FnQ Tryd.prog f_slices_Containsasl_uint32_uint32 slices_Containsasl_uint32_uint32_ps slices_Containsasl_uint32_uint32_rs slices_Containsasl_uint32_uint32_L := (fnQ_of k_slices_Containsasl_uint32_uint32 (tab := tab_slices_Containsasl_uint32_uint32) ⟨⟨ct_slices_Indexasl_uint32_uint32_ok, trivial⟩, trivial⟩ rfl).of_eq slices_Containsasl_uint32_uint32_eq
noncomputable def ct_slices_Containsasl_uint32_uint32 : Ct := ctRd slices_Containsasl_uint32_uint32_ps slices_Containsasl_uint32_uint32_rs slices_Containsasl_uint32_uint32_L
theorem ct_slices_Containsasl_uint32_uint32_ok : SoundCt Tryd.prog f_slices_Containsasl_uint32_uint32 ct_slices_Containsasl_uint32_uint32 := ctRd_sound slices_Containsasl_uint32_uint32_fq
def plan_path_part : PPlan := ⟨[], [], [], [], [], []⟩
theorem k_path_part : Known Tryd.prog f_path_part Tryd.f74 plan_path_part.plan (bodyOf Tryd.f74) := by refine ⟨Tryd.func74, ?_, ?_, ?_, ?_, ?_⟩ <;> kernel_rfl
abbrev path_part_ps : List Pk := [Pk.agg [Kd.bool, Kd.lst [Kd.int .u32]]]
abbrev path_part_rs : List Pk := [Pk.bool]
def path_part_q (s0 : Bool × List UInt32) (K : Bool → Prop) : Prop :=
 IfB (decide (((s0.2.length : Int) : Int) > 0))
 (IfB (decide (((s0.2.length : Int) : Int) ≤ 255))
 ((WfPs slices_Containsasl_uint32_uint32_ps (s0.2, (0 : Int), ()) →
 slices_Containsasl_uint32_uint32_q s0.2 (0 : Int) (fun x16 =>
 WfPs slices_Containsasl_uint32_uint32_rs (x16, ()) →
 K (!x16))))
 (K false))
 (K false)
noncomputable def tab_path_part : Tab := ⟨[(f_slices_Containsasl_uint32_uint32, ct_slices_Containsasl_uint32_uint32)], []⟩
abbrev path_part_L (x : PkTs path_part_ps) (K : PkTs path_part_rs → Prop) : Prop := path_part_q x.1 (fun r0 => K (r0, ()))
theorem path_part_eq : path_part_L = fun x K => PCode Tryd.prog tab_path_part plan_path_part (bodyOf Tryd.f74) (parS path_part_ps x) (PRet Tryd.prog Tryd.f74.results.toList fun a st => outP path_part_rs st a K) := by kernel_rfl
theorem path_part_fq : FnQ Tryd.prog f_path_part path_part_ps path_part_rs path_part_L := (fnQ_of k_path_part (tab := tab_path_part) ⟨⟨ct_slices_Containsasl_uint32_uint32_ok, trivial⟩, trivial⟩ rfl).of_eq path_part_eq
noncomputable def ct_path_part : Ct := ctRd path_part_ps path_part_rs path_part_L
theorem ct_path_part_ok : SoundCt Tryd.prog f_path_part ct_path_part := ctRd_sound path_part_fq
def pl_path_count_3 : PLoop := ⟨[(3, PK.int .i64), (8, PK.int .i64)], [6, 7], []⟩
def plan_path_count : PPlan := ⟨[], [(3, pl_path_count_3)], [], [], [], []⟩
theorem k_path_count : Known Tryd.prog f_path_count Tryd.f75 plan_path_count.plan (bodyOf Tryd.f75) := by refine ⟨Tryd.func75, ?_, ?_, ?_, ?_, ?_⟩ <;> kernel_rfl
abbrev path_count_ps : List Pk := [Pk.lst [Kd.bool, Kd.lst [Kd.int .u32]]]
abbrev path_count_rs : List Pk := [Pk.int .i64]
def path_count_l3 (p0 : List (Bool × List UInt32)) (n3 : Int) (x8 : Int) (next3 : (Int × Int × Unit) → Prop) (K : Int → Prop) : Prop :=
 IfB (decide ((x8 : Int) < (p0.length : Int)))
 ((0 : Int) ≤ x8 ∧ AtN p0 x8.toNat fun x10 =>
 WfT ks_bool_lst_int_u32 x10 →
 next3 ((IntKind.wrap .i64 (n3 + (x10.2.length : Int))), (IntKind.wrap .i64 (x8 + 1)), ()))
 (K n3)
def path_count_q (p0 : List (Bool × List UInt32)) (K : Int → Prop) : Prop :=
 LoopJ (Int × Int × Unit) ((0 : Int), (0 : Int), ()) fun y next =>
 WfY pl_path_count_3.kinds y →
 path_count_l3 p0 y.1 y.2.1 next K
noncomputable def tab_path_count : Tab := ⟨[], []⟩
abbrev path_count_L (x : PkTs path_count_ps) (K : PkTs path_count_rs → Prop) : Prop := path_count_q x.1 (fun r0 => K (r0, ()))
theorem path_count_eq : path_count_L = fun x K => PCode Tryd.prog tab_path_count plan_path_count (bodyOf Tryd.f75) (parS path_count_ps x) (PRet Tryd.prog Tryd.f75.results.toList fun a st => outP path_count_rs st a K) := by kernel_rfl
theorem path_count_fq : FnQ Tryd.prog f_path_count path_count_ps path_count_rs path_count_L := (fnQ_of k_path_count (tab := tab_path_count) ⟨trivial, trivial⟩ rfl).of_eq path_count_eq
noncomputable def ct_path_count : Ct := ctRd path_count_ps path_count_rs path_count_L
theorem ct_path_count_ok : SoundCt Tryd.prog f_path_count ct_path_count := ctRd_sound path_count_fq
def pl_path_Check_2 : PLoop := ⟨[(7, PK.int .i64)], [0, 5, 6], []⟩
def plan_path_Check : PPlan := ⟨[], [(2, pl_path_Check_2)], [], [], [], []⟩
theorem k_path_Check : Known Tryd.prog f_path_Check Tryd.f51 plan_path_Check.plan (bodyOf Tryd.f51) := by refine ⟨Tryd.func51, ?_, ?_, ?_, ?_, ?_⟩ <;> kernel_rfl
abbrev path_Check_ps : List Pk := [Pk.lst [Kd.bool, Kd.lst [Kd.int .u32]]]
abbrev path_Check_rs : List Pk := [Pk.int .i64]
def path_Check_l2 (p0 : List (Bool × List UInt32)) (x7 : Int) (next2 : (Int × Unit) → Prop) (K : Int → Prop) : Prop :=
 IfB (decide ((x7 : Int) < (p0.length : Int)))
 ((0 : Int) ≤ x7 ∧ AtN p0 x7.toNat fun x9 =>
 WfT ks_bool_lst_int_u32 x9 →
 (WfPs path_part_ps (x9, ()) →
 path_part_q x9 (fun x12 =>
 WfPs path_part_rs (x12, ()) →
 IfB (!x12)
 (K 2)
 (next2 ((IntKind.wrap .i64 (x7 + 1)), ())))))
 ((WfPs path_count_ps (p0, ()) →
 path_count_q p0 (fun x16 =>
 WfPs path_count_rs (x16, ()) →
 IfB (decide ((x16 : Int) > 64))
 (K 2)
 (K 0))))
def path_Check_q (p0 : List (Bool × List UInt32)) (K : Int → Prop) : Prop :=
 LoopJ (Int × Unit) ((0 : Int), ()) fun y next =>
 WfY pl_path_Check_2.kinds y →
 path_Check_l2 p0 y.1 next K
noncomputable def tab_path_Check : Tab := ⟨[(f_path_part, ct_path_part), (f_path_count, ct_path_count)], []⟩
abbrev path_Check_L (x : PkTs path_Check_ps) (K : PkTs path_Check_rs → Prop) : Prop := path_Check_q x.1 (fun r0 => K (r0, ()))
theorem path_Check_eq : path_Check_L = fun x K => PCode Tryd.prog tab_path_Check plan_path_Check (bodyOf Tryd.f51) (parS path_Check_ps x) (PRet Tryd.prog Tryd.f51.results.toList fun a st => outP path_Check_rs st a K) := by kernel_rfl
theorem path_Check_fq : FnQ Tryd.prog f_path_Check path_Check_ps path_Check_rs path_Check_L := (fnQ_of k_path_Check (tab := tab_path_Check) ⟨⟨ct_path_part_ok, ct_path_count_ok, trivial⟩, trivial⟩ rfl).of_eq path_Check_eq
noncomputable def ct_path_Check : Ct := ctRd path_Check_ps path_Check_rs path_Check_L
theorem ct_path_Check_ok : SoundCt Tryd.prog f_path_Check ct_path_Check := ctRd_sound path_Check_fq
def plan_attr_hop : PPlan := ⟨[], [], [], [], [], []⟩
theorem k_attr_hop : Known Tryd.prog f_attr_hop Tryd.f53 plan_attr_hop.plan (bodyOf Tryd.f53) := by refine ⟨Tryd.func53, ?_, ?_, ?_, ?_, ?_⟩ <;> kernel_rfl
abbrev attr_hop_ps : List Pk := [Pk.int .u32]
abbrev attr_hop_rs : List Pk := [Pk.bool]
def attr_hop_q (a0 : Int) (K : Bool → Prop) : Prop :=
 IfB ((a0 : Int) != 0)
 (K (decide ((a0 : Int) < 3758096384)))
 (K false)
noncomputable def tab_attr_hop : Tab := ⟨[], []⟩
abbrev attr_hop_L (x : PkTs attr_hop_ps) (K : PkTs attr_hop_rs → Prop) : Prop := attr_hop_q x.1 (fun r0 => K (r0, ()))
theorem attr_hop_eq : attr_hop_L = fun x K => PCode Tryd.prog tab_attr_hop plan_attr_hop (bodyOf Tryd.f53) (parS attr_hop_ps x) (PRet Tryd.prog Tryd.f53.results.toList fun a st => outP attr_hop_rs st a K) := by kernel_rfl
theorem attr_hop_fq : FnQ Tryd.prog f_attr_hop attr_hop_ps attr_hop_rs attr_hop_L := (fnQ_of k_attr_hop (tab := tab_attr_hop) ⟨trivial, trivial⟩ rfl).of_eq attr_hop_eq
noncomputable def ct_attr_hop : Ct := ctRd attr_hop_ps attr_hop_rs attr_hop_L
theorem ct_attr_hop_ok : SoundCt Tryd.prog f_attr_hop ct_attr_hop := ctRd_sound attr_hop_fq
def plan_attr_known : PPlan := ⟨[], [], [], [], [], []⟩
theorem k_attr_known : Known Tryd.prog f_attr_known Tryd.f45 plan_attr_known.plan (bodyOf Tryd.f45) := by refine ⟨Tryd.func45, ?_, ?_, ?_, ?_, ?_⟩ <;> kernel_rfl
abbrev attr_known_ps : List Pk := [Pk.int .i64]
abbrev attr_known_rs : List Pk := [Pk.int .u8, Pk.bool]
def attr_known_j2 (j0 : Bool) (K : Int → Bool → Prop) : Prop :=
 IfB j0
 (K 192 true)
 (K 0 false)
def attr_known_j1 (kind0 : Int) (K : Int → Bool → Prop) : Prop :=
 IfB ((kind0 : Int) == 4)
 (K 128 true)
 (IfB ((kind0 : Int) == 7)
 (attr_known_j2 ((kind0 : Int) == 7) K)
 (IfB ((kind0 : Int) == 8)
 (attr_known_j2 ((kind0 : Int) == 8) K)
 (IfB ((kind0 : Int) == 17)
 (attr_known_j2 ((kind0 : Int) == 17) K)
 (attr_known_j2 ((kind0 : Int) == 18) K))))
def attr_known_j0 (kind0 : Int) (j1 : Bool) (K : Int → Bool → Prop) : Prop :=
 IfB j1
 (K 64 true)
 (attr_known_j1 kind0 K)
def attr_known_q (kind0 : Int) (K : Int → Bool → Prop) : Prop :=
 IfB ((kind0 : Int) == 1)
 (attr_known_j0 kind0 ((kind0 : Int) == 1) K)
 (IfB ((kind0 : Int) == 2)
 (attr_known_j0 kind0 ((kind0 : Int) == 2) K)
 (IfB ((kind0 : Int) == 3)
 (attr_known_j0 kind0 ((kind0 : Int) == 3) K)
 (IfB ((kind0 : Int) == 5)
 (attr_known_j0 kind0 ((kind0 : Int) == 5) K)
 (attr_known_j0 kind0 ((kind0 : Int) == 6) K))))
noncomputable def tab_attr_known : Tab := ⟨[], []⟩
abbrev attr_known_L (x : PkTs attr_known_ps) (K : PkTs attr_known_rs → Prop) : Prop := attr_known_q x.1 (fun r0 r1 => K (r0, r1, ()))
theorem attr_known_eq : attr_known_L = fun x K => PCode Tryd.prog tab_attr_known plan_attr_known (bodyOf Tryd.f45) (parS attr_known_ps x) (PRet Tryd.prog Tryd.f45.results.toList fun a st => outP attr_known_rs st a K) := by kernel_rfl
theorem attr_known_fq : FnQ Tryd.prog f_attr_known attr_known_ps attr_known_rs attr_known_L := (fnQ_of k_attr_known (tab := tab_attr_known) ⟨trivial, trivial⟩ rfl).of_eq attr_known_eq
noncomputable def ct_attr_known : Ct := ctRd attr_known_ps attr_known_rs attr_known_L
theorem ct_attr_known_ok : SoundCt Tryd.prog f_attr_known ct_attr_known := ctRd_sound attr_known_fq
def pl_attr_others_3 : PLoop := ⟨[(3, PK.int .i64), (10, PK.int .i64)], [0, 8, 9], []⟩
def plan_attr_others : PPlan := ⟨[], [(3, pl_attr_others_3)], [], [], [], []⟩
theorem k_attr_others : Known Tryd.prog f_attr_others Tryd.f54 plan_attr_others.plan (bodyOf Tryd.f54) := by refine ⟨Tryd.func54, ?_, ?_, ?_, ?_, ?_⟩ <;> kernel_rfl
abbrev attr_others_ps : List Pk := [Pk.lst [Kd.int .i64, Kd.lst [Kd.int .u8]]]
abbrev attr_others_rs : List Pk := [Pk.bool]
def attr_others_j0 (l0 : List (Int × List UInt8)) (x12 : Int × List UInt8) (x10 : Int) (next3 : (Int × Int × Unit) → Prop) (j6 : Bool) (K : Bool → Prop) : Prop :=
 IfB j6
 (K false)
 (next3 (x12.1, (IntKind.wrap .i64 (x10 + 1)), ()))
def attr_others_l3 (l0 : List (Int × List UInt8)) (last3 : Int) (x10 : Int) (next3 : (Int × Int × Unit) → Prop) (K : Bool → Prop) : Prop :=
 IfB (decide ((x10 : Int) < (l0.length : Int)))
 ((0 : Int) ≤ x10 ∧ AtN l0 x10.toNat fun x12 =>
 WfT ks_int_i64_lst_int_u8 x12 →
 (WfPs attr_known_ps (x12.1, ()) →
 attr_known_q x12.1 (fun x17r0 x17r1 =>
 WfPs attr_known_rs (x17r0, x17r1, ()) →
 IfB x17r1
 (attr_others_j0 l0 x12 x10 next3 true K)
 (IfB (decide ((x12.1 : Int) ≤ last3))
 (attr_others_j0 l0 x12 x10 next3 true K)
 (IfB (decide ((x12.1 : Int) > 255))
 (attr_others_j0 l0 x12 x10 next3 true K)
 (attr_others_j0 l0 x12 x10 next3 (decide (((x12.2.length : Int) : Int) > 255)) K))))))
 (K (decide (((l0.length : Int) : Int) ≤ 8)))
def attr_others_q (l0 : List (Int × List UInt8)) (K : Bool → Prop) : Prop :=
 LoopJ (Int × Int × Unit) (((-1) : Int), (0 : Int), ()) fun y next =>
 WfY pl_attr_others_3.kinds y →
 attr_others_l3 l0 y.1 y.2.1 next K
noncomputable def tab_attr_others : Tab := ⟨[(f_attr_known, ct_attr_known)], []⟩
abbrev attr_others_L (x : PkTs attr_others_ps) (K : PkTs attr_others_rs → Prop) : Prop := attr_others_q x.1 (fun r0 => K (r0, ()))
theorem attr_others_eq : attr_others_L = fun x K => PCode Tryd.prog tab_attr_others plan_attr_others (bodyOf Tryd.f54) (parS attr_others_ps x) (PRet Tryd.prog Tryd.f54.results.toList fun a st => outP attr_others_rs st a K) := by kernel_rfl
theorem attr_others_fq : FnQ Tryd.prog f_attr_others attr_others_ps attr_others_rs attr_others_L := (fnQ_of k_attr_others (tab := tab_attr_others) ⟨⟨ct_attr_known_ok, trivial⟩, trivial⟩ rfl).of_eq attr_others_eq
noncomputable def ct_attr_others : Ct := ctRd attr_others_ps attr_others_rs attr_others_L
theorem ct_attr_others_ok : SoundCt Tryd.prog f_attr_others ct_attr_others := ctRd_sound attr_others_fq
def plan_attr_Check : PPlan := ⟨[], [], [], [], [], []⟩
theorem k_attr_Check : Known Tryd.prog f_attr_Check Tryd.f33 plan_attr_Check.plan (bodyOf Tryd.f33) := by refine ⟨Tryd.func33, ?_, ?_, ?_, ?_, ?_⟩ <;> kernel_rfl
abbrev attr_Check_ps : List Pk := [Pk.agg [Kd.int .i64, Kd.lst [Kd.bool, Kd.lst [Kd.int .u32]], Kd.int .u32, Kd.bool, Kd.int .u32, Kd.bool, Kd.int .u32, Kd.bool, Kd.bool, Kd.int .u32, Kd.int .u32, Kd.lst [Kd.int .u32], Kd.lst [Kd.int .i64, Kd.lst [Kd.int .u8]]]]
abbrev attr_Check_rs : List Pk := [Pk.int .i64]
def attr_Check_j2 (j0 : Bool) (K : Int → Prop) : Prop :=
 IfB j0
 (K 2)
 (K 0)
def attr_Check_j1 (a0 : Ty1) (j13_1 : Bool) (K : Int → Prop) : Prop :=
 IfB j13_1
 (K 2)
 (IfB (decide (((a0.2.2.2.2.2.2.2.2.2.2.2.1.length : Int) : Int) > 32))
 (attr_Check_j2 true K)
 ((WfPs attr_others_ps (a0.2.2.2.2.2.2.2.2.2.2.2.2, ()) →
 attr_others_q a0.2.2.2.2.2.2.2.2.2.2.2.2 (fun x40 =>
 WfPs attr_others_rs (x40, ()) →
 attr_Check_j2 (!x40) K))))
def attr_Check_j0 (a0 : Ty1) (j13 : Bool) (K : Int → Prop) : Prop :=
 IfB j13
 (K 2)
 ((WfPs attr_hop_ps ((a0.2.2.1.toNat : Int), ()) →
 attr_hop_q (a0.2.2.1.toNat : Int) (fun x21 =>
 WfPs attr_hop_rs (x21, ()) →
 IfB (!x21)
 (attr_Check_j1 a0 true K)
 (IfB a0.2.2.2.2.2.2.2.2.1
 (attr_Check_j1 a0 (((a0.2.2.2.2.2.2.2.2.2.1.toNat : Int) : Int) == 0) K)
 (attr_Check_j1 a0 false K)))))
def attr_Check_q (a0 : Ty1) (K : Int → Prop) : Prop :=
 IfB (decide ((a0.1 : Int) < 0))
 (attr_Check_j0 a0 true K)
 (IfB (decide ((a0.1 : Int) > 2))
 (attr_Check_j0 a0 true K)
 ((WfPs path_Check_ps (a0.2.1, ()) →
 path_Check_q a0.2.1 (fun x15 =>
 WfPs path_Check_rs (x15, ()) →
 attr_Check_j0 a0 ((x15 : Int) != 0) K))))
noncomputable def tab_attr_Check : Tab := ⟨[(f_path_Check, ct_path_Check), (f_attr_hop, ct_attr_hop), (f_attr_others, ct_attr_others)], []⟩
abbrev attr_Check_L (x : PkTs attr_Check_ps) (K : PkTs attr_Check_rs → Prop) : Prop := attr_Check_q x.1 (fun r0 => K (r0, ()))
theorem attr_Check_eq : attr_Check_L = fun x K => PCode Tryd.prog tab_attr_Check plan_attr_Check (bodyOf Tryd.f33) (parS attr_Check_ps x) (PRet Tryd.prog Tryd.f33.results.toList fun a st => outP attr_Check_rs st a K) := by kernel_rfl
theorem attr_Check_fq : FnQ Tryd.prog f_attr_Check attr_Check_ps attr_Check_rs attr_Check_L := (fnQ_of k_attr_Check (tab := tab_attr_Check) ⟨⟨ct_path_Check_ok, ct_attr_hop_ok, ct_attr_others_ok, trivial⟩, trivial⟩ rfl).of_eq attr_Check_eq
noncomputable def ct_attr_Check : Ct := ctRd attr_Check_ps attr_Check_rs attr_Check_L
theorem ct_attr_Check_ok : SoundCt Tryd.prog f_attr_Check ct_attr_Check := ctRd_sound attr_Check_fq
def plan_path_kind : PPlan := ⟨[], [], [], [], [], []⟩
theorem k_path_kind : Known Tryd.prog f_path_kind Tryd.f55 plan_path_kind.plan (bodyOf Tryd.f55) := by refine ⟨Tryd.func55, ?_, ?_, ?_, ?_, ?_⟩ <;> kernel_rfl
abbrev path_kind_ps : List Pk := [Pk.agg [Kd.bool, Kd.lst [Kd.int .u32]]]
abbrev path_kind_rs : List Pk := [Pk.int .u8]
def path_kind_q (s0 : Bool × List UInt32) (K : Int → Prop) : Prop :=
 IfB s0.1
 (K 1)
 (K 2)
noncomputable def tab_path_kind : Tab := ⟨[], []⟩
abbrev path_kind_L (x : PkTs path_kind_ps) (K : PkTs path_kind_rs → Prop) : Prop := path_kind_q x.1 (fun r0 => K (r0, ()))
theorem path_kind_eq : path_kind_L = fun x K => PCode Tryd.prog tab_path_kind plan_path_kind (bodyOf Tryd.f55) (parS path_kind_ps x) (PRet Tryd.prog Tryd.f55.results.toList fun a st => outP path_kind_rs st a K) := by kernel_rfl
theorem path_kind_fq : FnQ Tryd.prog f_path_kind path_kind_ps path_kind_rs path_kind_L := (fnQ_of k_path_kind (tab := tab_path_kind) ⟨trivial, trivial⟩ rfl).of_eq path_kind_eq
noncomputable def ct_path_kind : Ct := ctRd path_kind_ps path_kind_rs path_kind_L
theorem ct_path_kind_ok : SoundCt Tryd.prog f_path_kind ct_path_kind := ctRd_sound path_kind_fq
def pl_path_Put_6 : PLoop := ⟨[(7, PK.row T_uint8 [Kd.int .u8]), (19, PK.int .i64)], [1, 17, 18], []⟩
def pl_path_Put_10 : PLoop := ⟨[(7, PK.row T_uint8 [Kd.int .u8]), (35, PK.int .i64)], [1, 17, 18, 19, 33, 34], []⟩
def plan_path_Put : PPlan := ⟨[(8, [0, 1, 3, 4, 5, 6, 2, 7, 8, 9], [27])], [(6, pl_path_Put_6), (10, pl_path_Put_10)], [], [], [], []⟩
theorem k_path_Put : Known Tryd.prog f_path_Put Tryd.f34 plan_path_Put.plan (bodyOf Tryd.f34) := by refine ⟨Tryd.func34, ?_, ?_, ?_, ?_, ?_⟩ <;> kernel_rfl
abbrev path_Put_ps : List Pk := [Pk.lst [Kd.bool, Kd.lst [Kd.int .u32]], Pk.bool]
abbrev path_Put_rs : List Pk := [Pk.own T_uint8 [Kd.int .u8], Pk.int .i64]
def path_Put_j1 (four1 : Bool) (j1 : List UInt8) (j2 : Int) (p0 : List (Bool × List UInt32)) (x19 : Int) (x21 : Bool × List UInt32) (x35 : Int) (next6 : (List UInt8 × Int × Unit) → Prop) (next10 : (List UInt8 × Int × Unit) → Prop) (K : List UInt8 → Int → Prop) : Prop :=
 next10 ((j1 ++ ([(ofI .u8 (IntKind.wrap .u8 (Int.fdiv j2 256))), (ofI .u8 (IntKind.wrap .u8 j2))] : List UInt8)), (IntKind.wrap .i64 (x35 + 1)), ())
def path_Put_j0 (four1 : Bool) (p0 : List (Bool × List UInt32)) (x19 : Int) (x21 : Bool × List UInt32) (x35 : Int) (next6 : (List UInt8 × Int × Unit) → Prop) (next10 : (List UInt8 × Int × Unit) → Prop) (j1 : List UInt8) (j2 : Int) (K : List UInt8 → Int → Prop) : Prop :=
 (0 : Int) ≤ 8 ∧
 j1.length + ([(ofI .u8 (IntKind.wrap .u8 (Int.fdiv j2 256))), (ofI .u8 (IntKind.wrap .u8 j2))] : List UInt8).length ≤ 140737488355232 ∧
 path_Put_j1 four1 j1 j2 p0 x19 x21 x35 next6 next10 K
def path_Put_l10 (four1 : Bool) (p0 : List (Bool × List UInt32)) (x19 : Int) (x21 : Bool × List UInt32) (next6 : (List UInt8 × Int × Unit) → Prop) (b7_1 : List UInt8) (x35 : Int) (next10 : (List UInt8 × Int × Unit) → Prop) (K : List UInt8 → Int → Prop) : Prop :=
 IfB (decide ((x35 : Int) < (x21.2.length : Int)))
 ((0 : Int) ≤ x35 ∧ AtN x21.2 x35.toNat fun x37 =>
 WfT ks_int_u32 x37 →
 IfB four1
 ((0 : Int) ≤ 24 ∧
 (0 : Int) ≤ 16 ∧
 b7_1.length + ([(ofI .u8 (IntKind.wrap .u8 (Int.fdiv (x37.toNat : Int) 16777216))), (ofI .u8 (IntKind.wrap .u8 (Int.fdiv (x37.toNat : Int) 65536)))] : List UInt8).length ≤ 140737488355232 ∧
 path_Put_j0 four1 p0 x19 x21 x35 next6 next10 (b7_1 ++ ([(ofI .u8 (IntKind.wrap .u8 (Int.fdiv (x37.toNat : Int) 16777216))), (ofI .u8 (IntKind.wrap .u8 (Int.fdiv (x37.toNat : Int) 65536)))] : List UInt8)) (x37.toNat : Int) K)
 (IfB (decide (((x37.toNat : Int) : Int) > 65535))
 (path_Put_j0 four1 p0 x19 x21 x35 next6 next10 b7_1 23456 K)
 (path_Put_j0 four1 p0 x19 x21 x35 next6 next10 b7_1 (x37.toNat : Int) K)))
 (next6 (b7_1, (IntKind.wrap .i64 (x19 + 1)), ()))
def path_Put_l6 (four1 : Bool) (p0 : List (Bool × List UInt32)) (b7 : List UInt8) (x19 : Int) (next6 : (List UInt8 × Int × Unit) → Prop) (K : List UInt8 → Int → Prop) : Prop :=
 IfB (decide ((x19 : Int) < (p0.length : Int)))
 ((0 : Int) ≤ x19 ∧ AtN p0 x19.toNat fun x21 =>
 WfT ks_bool_lst_int_u32 x21 →
 (WfPs path_kind_ps (x21, ()) →
 path_kind_q x21 (fun x25 =>
 WfPs path_kind_rs (x25, ()) →
 b7.length + ([(ofI .u8 x25), (ofI .u8 (IntKind.wrap .u8 (x21.2.length : Int)))] : List UInt8).length ≤ 140737488355232 ∧
 LoopJ (List UInt8 × Int × Unit) ((b7 ++ ([(ofI .u8 x25), (ofI .u8 (IntKind.wrap .u8 (x21.2.length : Int)))] : List UInt8)), (0 : Int), ()) fun y next =>
 WfY pl_path_Put_10.kinds y →
 path_Put_l10 four1 p0 x19 x21 next6 y.1 y.2.1 next K)))
 (K b7 0)
def path_Put_q (p0 : List (Bool × List UInt32)) (four1 : Bool) (K : List UInt8 → Int → Prop) : Prop :=
 (WfPs path_Check_ps (p0, ()) →
 path_Check_q p0 (fun x13 =>
 WfPs path_Check_rs (x13, ()) →
 IfB ((x13 : Int) != 0)
 (K ([] : List UInt8) x13)
 (LoopJ (List UInt8 × Int × Unit) (([] : List UInt8), (0 : Int), ()) fun y next =>
 WfY pl_path_Put_6.kinds y →
 path_Put_l6 four1 p0 y.1 y.2.1 next K)))
noncomputable def tab_path_Put : Tab := ⟨[(f_path_Check, ct_path_Check), (f_path_kind, ct_path_kind)], []⟩
abbrev path_Put_L (x : PkTs path_Put_ps) (K : PkTs path_Put_rs → Prop) : Prop := path_Put_q x.1 x.2.1 (fun r0 r1 => K (r0, r1, ()))
theorem path_Put_eq : path_Put_L = fun x K => PCode Tryd.prog tab_path_Put plan_path_Put (bodyOf Tryd.f34) (parS path_Put_ps x) (PRet Tryd.prog Tryd.f34.results.toList fun a st => outP path_Put_rs st a K) := by kernel_rfl
theorem path_Put_fq : FnQ Tryd.prog f_path_Put path_Put_ps path_Put_rs path_Put_L := (fnQ_of k_path_Put (tab := tab_path_Put) ⟨⟨ct_path_Check_ok, ct_path_kind_ok, trivial⟩, trivial⟩ rfl).of_eq path_Put_eq
noncomputable def ct_path_Put : Ct := ctVal path_Put_ps path_Put_rs path_Put_L
theorem ct_path_Put_ok : SoundCt Tryd.prog f_path_Put ct_path_Put := ctVal_sound path_Put_fq
def plan_slices_Growasl_byte_byte_at_nil : PPlan := ⟨[], [], [25], [], [], []⟩
theorem k_slices_Growasl_byte_byte_at_nil : Known Tryd.prog f_slices_Growasl_byte_byte Tryd.f40 plan_slices_Growasl_byte_byte_at_nil.plan (bodyOf Tryd.f40) := by refine ⟨Tryd.func40, ?_, ?_, ?_, ?_, ?_⟩ <;> kernel_rfl
abbrev slices_Growasl_byte_byte_at_nil_ps : List Pk := [Pk.nil, Pk.int .i64]
abbrev slices_Growasl_byte_byte_at_nil_rs : List Pk := [Pk.own T_uint8 [Kd.int .u8]]
def slices_Growasl_byte_byte_at_nil_q (n1 : Int) (K : List UInt8 → Prop) : Prop :=
 IfB (decide ((n1 : Int) < 0))
 (False)
 (IfB (decide (((IntKind.wrap .i64 (n1 - (IntKind.wrap .i64 (0 - 0)))) : Int) > 0))
 ((0 : Int) ≤ 0 ∧ 0 ≤ (0 : Int) ∧
 (0 : Int) < (IntKind.wrap .i64 (n1 - (IntKind.wrap .i64 (0 - 0)))) ∧ (IntKind.wrap .i64 (n1 - (IntKind.wrap .i64 (0 - 0)))) ≤ 1000000000 ∧
 (0 : Int) ≤ 0 ∧ 0 ≤ ((List.replicate (IntKind.wrap .i64 (n1 - (IntKind.wrap .i64 (0 - 0)))).toNat ((ofI .u8 0) : UInt8)).length : Int) ∧
 K ((List.replicate (IntKind.wrap .i64 (n1 - (IntKind.wrap .i64 (0 - 0)))).toNat ((ofI .u8 0) : UInt8)).take 0))
 (K ([] : List UInt8)))
noncomputable def tab_slices_Growasl_byte_byte_at_nil : Tab := ⟨[], []⟩
abbrev slices_Growasl_byte_byte_at_nil_L (x : PkTs slices_Growasl_byte_byte_at_nil_ps) (K : PkTs slices_Growasl_byte_byte_at_nil_rs → Prop) : Prop := slices_Growasl_byte_byte_at_nil_q x.2.1 (fun r0 => K (r0, ()))
theorem slices_Growasl_byte_byte_at_nil_eq : slices_Growasl_byte_byte_at_nil_L = fun x K => PCode Tryd.prog tab_slices_Growasl_byte_byte_at_nil plan_slices_Growasl_byte_byte_at_nil (bodyOf Tryd.f40) (parS slices_Growasl_byte_byte_at_nil_ps x) (PRet Tryd.prog Tryd.f40.results.toList fun a st => outP slices_Growasl_byte_byte_at_nil_rs st a K) := by kernel_rfl
theorem slices_Growasl_byte_byte_at_nil_fq : FnQ Tryd.prog f_slices_Growasl_byte_byte slices_Growasl_byte_byte_at_nil_ps slices_Growasl_byte_byte_at_nil_rs slices_Growasl_byte_byte_at_nil_L := (fnQ_of k_slices_Growasl_byte_byte_at_nil (tab := tab_slices_Growasl_byte_byte_at_nil) ⟨trivial, trivial⟩ rfl).of_eq slices_Growasl_byte_byte_at_nil_eq
noncomputable def ct_slices_Growasl_byte_byte_at_nil : Ct := ctVal slices_Growasl_byte_byte_at_nil_ps slices_Growasl_byte_byte_at_nil_rs slices_Growasl_byte_byte_at_nil_L
theorem ct_slices_Growasl_byte_byte_at_nil_ok : SoundCt Tryd.prog f_slices_Growasl_byte_byte ct_slices_Growasl_byte_byte_at_nil := ctVal_sound slices_Growasl_byte_byte_at_nil_fq
def pl_slices_Concatasl_byte_byte_3 : PLoop := ⟨[(3, PK.int .i64), (11, PK.int .i64)], [0, 9, 10], []⟩
def pl_slices_Concatasl_byte_byte_11 : PLoop := ⟨[(6, PK.row T_uint8 [Kd.int .u8]), (27, PK.int .i64)], [25, 26], []⟩
def plan_slices_Concatasl_byte_byte : PPlan := ⟨[], [(3, pl_slices_Concatasl_byte_byte_3), (11, pl_slices_Concatasl_byte_byte_11)], [], [], [], []⟩
theorem k_slices_Concatasl_byte_byte : Known Tryd.prog f_slices_Concatasl_byte_byte Tryd.f21 plan_slices_Concatasl_byte_byte.plan (bodyOf Tryd.f21) := by refine ⟨Tryd.func21, ?_, ?_, ?_, ?_, ?_⟩ <;> kernel_rfl
abbrev slices_Concatasl_byte_byte_ps : List Pk := [Pk.lst [Kd.lst [Kd.int .u8]]]
abbrev slices_Concatasl_byte_byte_rs : List Pk := [Pk.own T_uint8 [Kd.int .u8]]
def slices_Concatasl_byte_byte_l11 (slices0 : List (List UInt8)) (newslice6 : List UInt8) (x27 : Int) (next11 : (List UInt8 × Int × Unit) → Prop) (K : List UInt8 → Prop) : Prop :=
 IfB (decide ((x27 : Int) < (slices0.length : Int)))
 ((0 : Int) ≤ x27 ∧ AtN slices0 x27.toNat fun x29 =>
 WfT ks_lst_int_u8 x29 →
 newslice6.length + x29.length ≤ 140737488355232 ∧
 next11 ((newslice6 ++ x29), (IntKind.wrap .i64 (x27 + 1)), ()))
 (K newslice6)
def slices_Concatasl_byte_byte_l3 (slices0 : List (List UInt8)) (size3 : Int) (x11 : Int) (next3 : (Int × Int × Unit) → Prop) (K : List UInt8 → Prop) : Prop :=
 IfB (decide ((x11 : Int) < (slices0.length : Int)))
 ((0 : Int) ≤ x11 ∧ AtN slices0 x11.toNat fun x13 =>
 WfT ks_lst_int_u8 x13 →
 IfB (decide (((IntKind.wrap .i64 (size3 + (x13.length : Int))) : Int) < 0))
 (False)
 (next3 ((IntKind.wrap .i64 (size3 + (x13.length : Int))), (IntKind.wrap .i64 (x11 + 1)), ())))
 ((WfPs slices_Growasl_byte_byte_at_nil_ps ((), size3, ()) →
 slices_Growasl_byte_byte_at_nil_q size3 (fun x24 =>
 WfPs slices_Growasl_byte_byte_at_nil_rs (x24, ()) →
 LoopJ (List UInt8 × Int × Unit) (x24, (0 : Int), ()) fun y next =>
 WfY pl_slices_Concatasl_byte_byte_11.kinds y →
 slices_Concatasl_byte_byte_l11 slices0 y.1 y.2.1 next K)))
def slices_Concatasl_byte_byte_q (slices0 : List (List UInt8)) (K : List UInt8 → Prop) : Prop :=
 LoopJ (Int × Int × Unit) ((0 : Int), (0 : Int), ()) fun y next =>
 WfY pl_slices_Concatasl_byte_byte_3.kinds y →
 slices_Concatasl_byte_byte_l3 slices0 y.1 y.2.1 next K
noncomputable def tab_slices_Concatasl_byte_byte : Tab := ⟨[(f_slices_Growasl_byte_byte, ct_slices_Growasl_byte_byte_at_nil)], []⟩
abbrev slices_Concatasl_byte_byte_L (x : PkTs slices_Concatasl_byte_byte_ps) (K : PkTs slices_Concatasl_byte_byte_rs → Prop) : Prop := slices_Concatasl_byte_byte_q x.1 (fun r0 => K (r0, ()))
theorem slices_Concatasl_byte_byte_eq : slices_Concatasl_byte_byte_L = fun x K => PCode Tryd.prog tab_slices_Concatasl_byte_byte plan_slices_Concatasl_byte_byte (bodyOf Tryd.f21) (parS slices_Concatasl_byte_byte_ps x) (PRet Tryd.prog Tryd.f21.results.toList fun a st => outP slices_Concatasl_byte_byte_rs st a K) := by kernel_rfl
theorem slices_Concatasl_byte_byte_fq : FnQ Tryd.prog f_slices_Concatasl_byte_byte slices_Concatasl_byte_byte_ps slices_Concatasl_byte_byte_rs slices_Concatasl_byte_byte_L := (fnQ_of k_slices_Concatasl_byte_byte (tab := tab_slices_Concatasl_byte_byte) ⟨⟨ct_slices_Growasl_byte_byte_at_nil_ok, trivial⟩, trivial⟩ rfl).of_eq slices_Concatasl_byte_byte_eq
noncomputable def ct_slices_Concatasl_byte_byte : Ct := ctVal slices_Concatasl_byte_byte_ps slices_Concatasl_byte_byte_rs slices_Concatasl_byte_byte_L
theorem ct_slices_Concatasl_byte_byte_ok : SoundCt Tryd.prog f_slices_Concatasl_byte_byte ct_slices_Concatasl_byte_byte := ctVal_sound slices_Concatasl_byte_byte_fq
def plan_attr_writer_put : PPlan := ⟨[], [], [], [], [], []⟩
theorem k_attr_writer_put : Known Tryd.prog f_attr_writer_put Tryd.f39 plan_attr_writer_put.plan (bodyOf Tryd.f39) := by refine ⟨Tryd.func39, ?_, ?_, ?_, ?_, ?_⟩ <;> kernel_rfl
abbrev attr_writer_put_ps : List Pk := [Pk.int .u8, Pk.int .i64, Pk.lst [Kd.lst [Kd.int .u8]]]
abbrev attr_writer_put_rs : List Pk := []
abbrev attr_writer_put_os : List PK := [PK.row T_uint8 [Kd.int .u8]]
def attr_writer_put_j0 (x11 : List UInt8) (j0 : List UInt8) (K : List UInt8 → Prop) : Prop :=
 j0.length + x11.length ≤ 140737488355232 ∧
 K (j0 ++ x11)
def attr_writer_put_q (c0 : List UInt8) (flags1 : Int) (kind2 : Int) (parts3 : List (List UInt8)) (K : List UInt8 → Prop) : Prop :=
 (WfPs slices_Concatasl_byte_byte_ps (parts3, ()) →
 slices_Concatasl_byte_byte_q parts3 (fun x11 =>
 WfPs slices_Concatasl_byte_byte_rs (x11, ()) →
 IfB (decide (((x11.length : Int) : Int) > 255))
 ((0 : Int) ≤ 8 ∧
 c0.length + ([(ofI .u8 (bitsOr .u8 flags1 16)), (ofI .u8 (IntKind.wrap .u8 kind2)), (ofI .u8 (IntKind.wrap .u8 (Int.fdiv (x11.length : Int) 256))), (ofI .u8 (IntKind.wrap .u8 (x11.length : Int)))] : List UInt8).length ≤ 140737488355232 ∧
 attr_writer_put_j0 x11 (c0 ++ ([(ofI .u8 (bitsOr .u8 flags1 16)), (ofI .u8 (IntKind.wrap .u8 kind2)), (ofI .u8 (IntKind.wrap .u8 (Int.fdiv (x11.length : Int) 256))), (ofI .u8 (IntKind.wrap .u8 (x11.length : Int)))] : List UInt8)) K)
 (c0.length + ([(ofI .u8 flags1), (ofI .u8 (IntKind.wrap .u8 kind2)), (ofI .u8 (IntKind.wrap .u8 (x11.length : Int)))] : List UInt8).length ≤ 140737488355232 ∧
 attr_writer_put_j0 x11 (c0 ++ ([(ofI .u8 flags1), (ofI .u8 (IntKind.wrap .u8 kind2)), (ofI .u8 (IntKind.wrap .u8 (x11.length : Int)))] : List UInt8)) K)))
noncomputable def tab_attr_writer_put : Tab := ⟨[(f_slices_Concatasl_byte_byte, ct_slices_Concatasl_byte_byte)], []⟩
theorem attr_writer_put_eq : (fun (o : PTup attr_writer_put_os) (x : PkTs attr_writer_put_ps) (K : PTup attr_writer_put_os → PkTs attr_writer_put_rs → Prop) => attr_writer_put_q o.1 x.1 x.2.1 x.2.2.1 (fun o0 => K (o0, ()) (()))) = fun o x K => PCode Tryd.prog tab_attr_writer_put plan_attr_writer_put (bodyOf Tryd.f39) (parO T_attr_writer attr_writer_put_os attr_writer_put_ps o x) (PRet Tryd.prog Tryd.f39.results.toList fun a st => outO T_attr_writer attr_writer_put_os attr_writer_put_rs st a K) := by kernel_rfl
theorem attr_writer_put_fq : FnO Tryd.prog f_attr_writer_put T_attr_writer attr_writer_put_os attr_writer_put_ps attr_writer_put_rs (fun o x K => attr_writer_put_q o.1 x.1 x.2.1 x.2.2.1 (fun o0 => K (o0, ()) (()))) := (fnO_of k_attr_writer_put (tab := tab_attr_writer_put) ⟨⟨ct_slices_Concatasl_byte_byte_ok, trivial⟩, trivial⟩ rfl).of_eq attr_writer_put_eq
noncomputable def ct_attr_writer_put : Ct := ctObj T_attr_writer attr_writer_put_os attr_writer_put_ps attr_writer_put_rs (fun o x K => attr_writer_put_q o.1 x.1 x.2.1 x.2.2.1 (fun o0 => K (o0, ()) (())))
theorem ct_attr_writer_put_ok : SoundCt Tryd.prog f_attr_writer_put ct_attr_writer_put := ctObj_sound attr_writer_put_fq
def plan_attr_writer_usual : PPlan := ⟨[], [], [], [], [], []⟩
theorem k_attr_writer_usual : Known Tryd.prog f_attr_writer_usual Tryd.f35 plan_attr_writer_usual.plan (bodyOf Tryd.f35) := by refine ⟨Tryd.func35, ?_, ?_, ?_, ?_, ?_⟩ <;> kernel_rfl
abbrev attr_writer_usual_ps : List Pk := [Pk.int .i64, Pk.lst [Kd.lst [Kd.int .u8]]]
abbrev attr_writer_usual_rs : List Pk := []
abbrev attr_writer_usual_os : List PK := [PK.row T_uint8 [Kd.int .u8]]
def attr_writer_usual_q (c0 : List UInt8) (kind1 : Int) (parts2 : List (List UInt8)) (K : List UInt8 → Prop) : Prop :=
 (WfPs attr_known_ps (kind1, ()) →
 attr_known_q kind1 (fun x10r0 x10r1 =>
 WfPs attr_known_rs (x10r0, x10r1, ()) →
 (WfY attr_writer_put_os (c0, ()) →
 WfPs attr_writer_put_ps (x10r0, kind1, parts2, ()) →
 attr_writer_put_q c0 x10r0 kind1 parts2 (fun ox170 =>
 WfY attr_writer_put_os (ox170, ()) →
 WfPs attr_writer_put_rs () →
 K ox170))))
noncomputable def tab_attr_writer_usual : Tab := ⟨[(f_attr_writer_put, ct_attr_writer_put), (f_attr_known, ct_attr_known)], []⟩
theorem attr_writer_usual_eq : (fun (o : PTup attr_writer_usual_os) (x : PkTs attr_writer_usual_ps) (K : PTup attr_writer_usual_os → PkTs attr_writer_usual_rs → Prop) => attr_writer_usual_q o.1 x.1 x.2.1 (fun o0 => K (o0, ()) (()))) = fun o x K => PCode Tryd.prog tab_attr_writer_usual plan_attr_writer_usual (bodyOf Tryd.f35) (parO T_attr_writer attr_writer_usual_os attr_writer_usual_ps o x) (PRet Tryd.prog Tryd.f35.results.toList fun a st => outO T_attr_writer attr_writer_usual_os attr_writer_usual_rs st a K) := by kernel_rfl
theorem attr_writer_usual_fq : FnO Tryd.prog f_attr_writer_usual T_attr_writer attr_writer_usual_os attr_writer_usual_ps attr_writer_usual_rs (fun o x K => attr_writer_usual_q o.1 x.1 x.2.1 (fun o0 => K (o0, ()) (()))) := (fnO_of k_attr_writer_usual (tab := tab_attr_writer_usual) ⟨⟨ct_attr_writer_put_ok, ct_attr_known_ok, trivial⟩, trivial⟩ rfl).of_eq attr_writer_usual_eq
noncomputable def ct_attr_writer_usual : Ct := ctObj T_attr_writer attr_writer_usual_os attr_writer_usual_ps attr_writer_usual_rs (fun o x K => attr_writer_usual_q o.1 x.1 x.2.1 (fun o0 => K (o0, ()) (())))
theorem ct_attr_writer_usual_ok : SoundCt Tryd.prog f_attr_writer_usual ct_attr_writer_usual := ctObj_sound attr_writer_usual_fq
def plan_attr_num : PPlan := ⟨[], [], [], [], [], []⟩
theorem k_attr_num : Known Tryd.prog f_attr_num Tryd.f36 plan_attr_num.plan (bodyOf Tryd.f36) := by refine ⟨Tryd.func36, ?_, ?_, ?_, ?_, ?_⟩ <;> kernel_rfl
abbrev attr_num_ps : List Pk := [Pk.int .u32]
abbrev attr_num_rs : List Pk := [Pk.own T_uint8 [Kd.int .u8]]
def attr_num_q (n0 : Int) (K : List UInt8 → Prop) : Prop :=
 (0 : Int) ≤ 24 ∧
 (0 : Int) ≤ 16 ∧
 (0 : Int) ≤ 8 ∧
 K ([(ofI .u8 (IntKind.wrap .u8 (Int.fdiv n0 16777216))), (ofI .u8 (IntKind.wrap .u8 (Int.fdiv n0 65536))), (ofI .u8 (IntKind.wrap .u8 (Int.fdiv n0 256))), (ofI .u8 (IntKind.wrap .u8 n0))] : List UInt8)
noncomputable def tab_attr_num : Tab := ⟨[], []⟩
abbrev attr_num_L (x : PkTs attr_num_ps) (K : PkTs attr_num_rs → Prop) : Prop := attr_num_q x.1 (fun r0 => K (r0, ()))
theorem attr_num_eq : attr_num_L = fun x K => PCode Tryd.prog tab_attr_num plan_attr_num (bodyOf Tryd.f36) (parS attr_num_ps x) (PRet Tryd.prog Tryd.f36.results.toList fun a st => outP attr_num_rs st a K) := by kernel_rfl
theorem attr_num_fq : FnQ Tryd.prog f_attr_num attr_num_ps attr_num_rs attr_num_L := (fnQ_of k_attr_num (tab := tab_attr_num) ⟨trivial, trivial⟩ rfl).of_eq attr_num_eq
noncomputable def ct_attr_num : Ct := ctVal attr_num_ps attr_num_rs attr_num_L
theorem ct_attr_num_ok : SoundCt Tryd.prog f_attr_num ct_attr_num := ctVal_sound attr_num_fq
def plan_attr_system : PPlan := ⟨[], [], [], [], [], []⟩
theorem k_attr_system : Known Tryd.prog f_attr_system Tryd.f56 plan_attr_system.plan (bodyOf Tryd.f56) := by refine ⟨Tryd.func56, ?_, ?_, ?_, ?_, ?_⟩ <;> kernel_rfl
abbrev attr_system_ps : List Pk := [Pk.int .u32, Pk.bool]
abbrev attr_system_rs : List Pk := [Pk.lst [Kd.int .u8]]
def attr_system_j0 (j0 : Int) (K : List UInt8 → Prop) : Prop :=
 (WfPs attr_num_ps (j0, ()) →
 attr_num_q j0 (fun x13 =>
 WfPs attr_num_rs (x13, ()) →
 (0 : Int) ≤ 2 ∧ 2 ≤ (x13.length : Int) ∧
 K (x13.drop 2)))
def attr_system_q (as0 : Int) (four1 : Bool) (K : List UInt8 → Prop) : Prop :=
 IfB four1
 ((WfPs attr_num_ps (as0, ()) →
 attr_num_q as0 (fun x8 =>
 WfPs attr_num_rs (x8, ()) →
 K x8)))
 (IfB (decide ((as0 : Int) > 65535))
 (attr_system_j0 23456 K)
 (attr_system_j0 as0 K))
noncomputable def tab_attr_system : Tab := ⟨[(f_attr_num, ct_attr_num)], []⟩
abbrev attr_system_L (x : PkTs attr_system_ps) (K : PkTs attr_system_rs → Prop) : Prop := attr_system_q x.1 x.2.1 (fun r0 => K (r0, ()))
theorem attr_system_eq : attr_system_L = fun x K => PCode Tryd.prog tab_attr_system plan_attr_system (bodyOf Tryd.f56) (parS attr_system_ps x) (PRet Tryd.prog Tryd.f56.results.toList fun a st => outP attr_system_rs st a K) := by kernel_rfl
theorem attr_system_fq : FnQ Tryd.prog f_attr_system attr_system_ps attr_system_rs attr_system_L := (fnQ_of k_attr_system (tab := tab_attr_system) ⟨⟨ct_attr_num_ok, trivial⟩, trivial⟩ rfl).of_eq attr_system_eq
noncomputable def ct_attr_system : Ct := ctVal attr_system_ps attr_system_rs attr_system_L
theorem ct_attr_system_ok : SoundCt Tryd.prog f_attr_system ct_attr_system := ctVal_sound attr_system_fq
def pl_attr_writer_perhaps_10 : PLoop := ⟨[(6, PK.row T_sl_uint8 [Kd.lst [Kd.int .u8]]), (40, PK.int .i64)], [0, 38, 39], []⟩
def plan_attr_writer_perhaps : PPlan := ⟨[(6, [0, 1, 2, 3, 5, 6, 4, 7, 8, 9], [29])], [(10, pl_attr_writer_perhaps_10)], [], [], [], []⟩
theorem k_attr_writer_perhaps : Known Tryd.prog f_attr_writer_perhaps Tryd.f37 plan_attr_writer_perhaps.plan (bodyOf Tryd.f37) := by refine ⟨Tryd.func37, ?_, ?_, ?_, ?_, ?_⟩ <;> kernel_rfl
abbrev attr_writer_perhaps_ps : List Pk := [Pk.agg [Kd.int .i64, Kd.lst [Kd.bool, Kd.lst [Kd.int .u32]], Kd.int .u32, Kd.bool, Kd.int .u32, Kd.bool, Kd.int .u32, Kd.bool, Kd.bool, Kd.int .u32, Kd.int .u32, Kd.lst [Kd.int .u32], Kd.lst [Kd.int .i64, Kd.lst [Kd.int .u8]]], Pk.bool]
abbrev attr_writer_perhaps_rs : List Pk := []
abbrev attr_writer_perhaps_os : List PK := [PK.row T_uint8 [Kd.int .u8]]
def attr_writer_perhaps_l10 (j0_2 : List UInt8) (a1 : Ty1) (l6 : List (List UInt8)) (x40 : Int) (next10 : (List (List UInt8) × Int × Unit) → Prop) (K : List UInt8 → Prop) : Prop :=
 IfB (decide ((x40 : Int) < (a1.2.2.2.2.2.2.2.2.2.2.2.1.length : Int)))
 ((0 : Int) ≤ x40 ∧ AtN a1.2.2.2.2.2.2.2.2.2.2.2.1 x40.toNat fun x42 =>
 WfT ks_int_u32 x42 →
 (WfPs attr_num_ps ((x42.toNat : Int), ()) →
 attr_num_q (x42.toNat : Int) (fun x46 =>
 WfPs attr_num_rs (x46, ()) →
 l6.length + ([x46] : List (List UInt8)).length ≤ 5864062014709 ∧
 next10 ((l6 ++ ([x46] : List (List UInt8))), (IntKind.wrap .i64 (x40 + 1)), ()))))
 ((WfY attr_writer_usual_os (j0_2, ()) →
 WfPs attr_writer_usual_ps ((8 : Int), l6, ()) →
 attr_writer_usual_q j0_2 (8 : Int) l6 (fun ox520 =>
 WfY attr_writer_usual_os (ox520, ()) →
 WfPs attr_writer_usual_rs () →
 K ox520)))
def attr_writer_perhaps_j2 (a1 : Ty1) (j0_2 : List UInt8) (K : List UInt8 → Prop) : Prop :=
 IfB (decide (((a1.2.2.2.2.2.2.2.2.2.2.2.1.length : Int) : Int) > 0))
 (LoopJ (List (List UInt8) × Int × Unit) (([] : List (List UInt8)), (0 : Int), ()) fun y next =>
 WfY pl_attr_writer_perhaps_10.kinds y →
 attr_writer_perhaps_l10 j0_2 a1 y.1 y.2.1 next K)
 (K j0_2)
def attr_writer_perhaps_j1 (four2 : Bool) (a1 : Ty1) (j0_1 : List UInt8) (K : List UInt8 → Prop) : Prop :=
 IfB a1.2.2.2.2.2.2.2.2.1
 ((WfPs attr_system_ps ((a1.2.2.2.2.2.2.2.2.2.1.toNat : Int), four2, ()) →
 attr_system_q (a1.2.2.2.2.2.2.2.2.2.1.toNat : Int) four2 (fun x27 =>
 WfPs attr_system_rs (x27, ()) →
 (WfPs attr_num_ps ((a1.2.2.2.2.2.2.2.2.2.2.1.toNat : Int), ()) →
 attr_num_q (a1.2.2.2.2.2.2.2.2.2.2.1.toNat : Int) (fun x30 =>
 WfPs attr_num_rs (x30, ()) →
 (WfY attr_writer_usual_os (j0_1, ()) →
 WfPs attr_writer_usual_ps ((7 : Int), ([x27, x30] : List (List UInt8)), ()) →
 attr_writer_usual_q j0_1 (7 : Int) ([x27, x30] : List (List UInt8)) (fun ox320 =>
 WfY attr_writer_usual_os (ox320, ()) →
 WfPs attr_writer_usual_rs () →
 attr_writer_perhaps_j2 a1 ox320 K)))))))
 (attr_writer_perhaps_j2 a1 j0_1 K)
def attr_writer_perhaps_j0 (four2 : Bool) (a1 : Ty1) (j0 : List UInt8) (K : List UInt8 → Prop) : Prop :=
 IfB a1.2.2.2.2.2.2.2.1
 ((WfY attr_writer_usual_os (j0, ()) →
 WfPs attr_writer_usual_ps ((6 : Int), ([] : List (List UInt8)), ()) →
 attr_writer_usual_q j0 (6 : Int) ([] : List (List UInt8)) (fun ox200 =>
 WfY attr_writer_usual_os (ox200, ()) →
 WfPs attr_writer_usual_rs () →
 attr_writer_perhaps_j1 four2 a1 ox200 K)))
 (attr_writer_perhaps_j1 four2 a1 j0 K)
def attr_writer_perhaps_q (c0 : List UInt8) (a1 : Ty1) (four2 : Bool) (K : List UInt8 → Prop) : Prop :=
 IfB a1.2.2.2.1
 ((WfPs attr_num_ps ((a1.2.2.2.2.1.toNat : Int), ()) →
 attr_num_q (a1.2.2.2.2.1.toNat : Int) (fun x14 =>
 WfPs attr_num_rs (x14, ()) →
 (WfY attr_writer_usual_os (c0, ()) →
 WfPs attr_writer_usual_ps ((4 : Int), ([x14] : List (List UInt8)), ()) →
 attr_writer_usual_q c0 (4 : Int) ([x14] : List (List UInt8)) (fun ox160 =>
 WfY attr_writer_usual_os (ox160, ()) →
 WfPs attr_writer_usual_rs () →
 attr_writer_perhaps_j0 four2 a1 ox160 K)))))
 (attr_writer_perhaps_j0 four2 a1 c0 K)
noncomputable def tab_attr_writer_perhaps : Tab := ⟨[(f_attr_writer_usual, ct_attr_writer_usual), (f_attr_num, ct_attr_num), (f_attr_system, ct_attr_system)], []⟩
theorem attr_writer_perhaps_eq : (fun (o : PTup attr_writer_perhaps_os) (x : PkTs attr_writer_perhaps_ps) (K : PTup attr_writer_perhaps_os → PkTs attr_writer_perhaps_rs → Prop) => attr_writer_perhaps_q o.1 x.1 x.2.1 (fun o0 => K (o0, ()) (()))) = fun o x K => PCode Tryd.prog tab_attr_writer_perhaps plan_attr_writer_perhaps (bodyOf Tryd.f37) (parO T_attr_writer attr_writer_perhaps_os attr_writer_perhaps_ps o x) (PRet Tryd.prog Tryd.f37.results.toList fun a st => outO T_attr_writer attr_writer_perhaps_os attr_writer_perhaps_rs st a K) := by kernel_rfl
theorem attr_writer_perhaps_fq : FnO Tryd.prog f_attr_writer_perhaps T_attr_writer attr_writer_perhaps_os attr_writer_perhaps_ps attr_writer_perhaps_rs (fun o x K => attr_writer_perhaps_q o.1 x.1 x.2.1 (fun o0 => K (o0, ()) (()))) := (fnO_of k_attr_writer_perhaps (tab := tab_attr_writer_perhaps) ⟨⟨ct_attr_writer_usual_ok, ct_attr_num_ok, ct_attr_system_ok, trivial⟩, trivial⟩ rfl).of_eq attr_writer_perhaps_eq
noncomputable def ct_attr_writer_perhaps : Ct := ctObj T_attr_writer attr_writer_perhaps_os attr_writer_perhaps_ps attr_writer_perhaps_rs (fun o x K => attr_writer_perhaps_q o.1 x.1 x.2.1 (fun o0 => K (o0, ()) (())))
theorem ct_attr_writer_perhaps_ok : SoundCt Tryd.prog f_attr_writer_perhaps ct_attr_writer_perhaps := ctObj_sound attr_writer_perhaps_fq
def plan_attr_great_1_1 : PPlan := ⟨[], [], [], [], [], []⟩
theorem k_attr_great_1_1 : Known Tryd.prog f_attr_great_1_1 Tryd.f60 plan_attr_great_1_1.plan (bodyOf Tryd.f60) := by refine ⟨Tryd.func60, ?_, ?_, ?_, ?_, ?_⟩ <;> kernel_rfl
abbrev attr_great_1_1_ps : List Pk := [Pk.int .u32]
abbrev attr_great_1_1_rs : List Pk := [Pk.bool]
def attr_great_1_1_q (as0 : Int) (K : Bool → Prop) : Prop :=
 K (decide ((as0 : Int) > 65535))
noncomputable def tab_attr_great_1_1 : Tab := ⟨[], []⟩
abbrev attr_great_1_1_L (x : PkTs attr_great_1_1_ps) (K : PkTs attr_great_1_1_rs → Prop) : Prop := attr_great_1_1_q x.1 (fun r0 => K (r0, ()))
theorem attr_great_1_1_eq : attr_great_1_1_L = fun x K => PCode Tryd.prog tab_attr_great_1_1 plan_attr_great_1_1 (bodyOf Tryd.f60) (parS attr_great_1_1_ps x) (PRet Tryd.prog Tryd.f60.results.toList fun a st => outP attr_great_1_1_rs st a K) := by kernel_rfl
theorem attr_great_1_1_fq : FnQ Tryd.prog f_attr_great_1_1 attr_great_1_1_ps attr_great_1_1_rs attr_great_1_1_L := (fnQ_of k_attr_great_1_1 (tab := tab_attr_great_1_1) ⟨trivial, trivial⟩ rfl).of_eq attr_great_1_1_eq
noncomputable def ct_attr_great_1_1 : Ct := ctRd attr_great_1_1_ps attr_great_1_1_rs attr_great_1_1_L
theorem ct_attr_great_1_1_ok : SoundCt Tryd.prog f_attr_great_1_1 ct_attr_great_1_1 := ctRd_sound attr_great_1_1_fq
def pl_slices_IndexFuncasl_uint32_uint32_at_attr_great_1_1_2 : PLoop := ⟨[(8, PK.int .i64)], [0, 1, 7], []⟩
def plan_slices_IndexFuncasl_uint32_uint32_at_attr_great_1_1 : PPlan := ⟨[], [(2, pl_slices_IndexFuncasl_uint32_uint32_at_attr_great_1_1_2)], [], [], [], []⟩
theorem k_slices_IndexFuncasl_uint32_uint32_at_attr_great_1_1 : Known Tryd.prog f_slices_IndexFuncasl_uint32_uint32 Tryd.f77 plan_slices_IndexFuncasl_uint32_uint32_at_attr_great_1_1.plan (bodyOf Tryd.f77) := by refine ⟨Tryd.func77, ?_, ?_, ?_, ?_, ?_⟩ <;> kernel_rfl
abbrev slices_IndexFuncasl_uint32_uint32_at_attr_great_1_1_ps : List Pk := [Pk.lst [Kd.int .u32], Pk.fn 60]
abbrev slices_IndexFuncasl_uint32_uint32_at_attr_great_1_1_rs : List Pk := [Pk.int .i64]
def slices_IndexFuncasl_uint32_uint32_at_attr_great_1_1_l2 (s0 : List UInt32) (x8 : Int) (next2 : (Int × Unit) → Prop) (K : Int → Prop) : Prop :=
 IfB (decide ((x8 : Int) < (s0.length : Int)))
 ((0 : Int) ≤ x8 ∧ AtN s0 x8.toNat fun x14 =>
 WfT ks_int_u32 x14 →
 (WfPs attr_great_1_1_ps ((x14.toNat : Int), ()) →
 attr_great_1_1_q (x14.toNat : Int) (fun x16 =>
 WfPs attr_great_1_1_rs (x16, ()) →
 IfB x16
 (K x8)
 (next2 ((IntKind.wrap .i64 (x8 + 1)), ())))))
 (K (-1))
def slices_IndexFuncasl_uint32_uint32_at_attr_great_1_1_q (s0 : List UInt32) (K : Int → Prop) : Prop :=
 LoopJ (Int × Unit) ((0 : Int), ()) fun y next =>
 WfY pl_slices_IndexFuncasl_uint32_uint32_at_attr_great_1_1_2.kinds y →
 slices_IndexFuncasl_uint32_uint32_at_attr_great_1_1_l2 s0 y.1 next K
noncomputable def tab_slices_IndexFuncasl_uint32_uint32_at_attr_great_1_1 : Tab := ⟨[(f_attr_great_1_1, ct_attr_great_1_1)], []⟩
abbrev slices_IndexFuncasl_uint32_uint32_at_attr_great_1_1_L (x : PkTs slices_IndexFuncasl_uint32_uint32_at_attr_great_1_1_ps) (K : PkTs slices_IndexFuncasl_uint32_uint32_at_attr_great_1_1_rs → Prop) : Prop := slices_IndexFuncasl_uint32_uint32_at_attr_great_1_1_q x.1 (fun r0 => K (r0, ()))
theorem slices_IndexFuncasl_uint32_uint32_at_attr_great_1_1_eq : slices_IndexFuncasl_uint32_uint32_at_attr_great_1_1_L = fun x K => PCode Tryd.prog tab_slices_IndexFuncasl_uint32_uint32_at_attr_great_1_1 plan_slices_IndexFuncasl_uint32_uint32_at_attr_great_1_1 (bodyOf Tryd.f77) (parS slices_IndexFuncasl_uint32_uint32_at_attr_great_1_1_ps x) (PRet Tryd.prog Tryd.f77.results.toList fun a st => outP slices_IndexFuncasl_uint32_uint32_at_attr_great_1_1_rs st a K) := by kernel_rfl
theorem slices_IndexFuncasl_uint32_uint32_at_attr_great_1_1_fq : FnQ Tryd.prog f_slices_IndexFuncasl_uint32_uint32 slices_IndexFuncasl_uint32_uint32_at_attr_great_1_1_ps slices_IndexFuncasl_uint32_uint32_at_attr_great_1_1_rs slices_IndexFuncasl_uint32_uint32_at_attr_great_1_1_L := (fnQ_of k_slices_IndexFuncasl_uint32_uint32_at_attr_great_1_1 (tab := tab_slices_IndexFuncasl_uint32_uint32_at_attr_great_1_1) ⟨⟨ct_attr_great_1_1_ok, trivial⟩, trivial⟩ rfl).of_eq slices_IndexFuncasl_uint32_uint32_at_attr_great_1_1_eq
noncomputable def ct_slices_IndexFuncasl_uint32_uint32_at_attr_great_1_1 : Ct := ctRd slices_IndexFuncasl_uint32_uint32_at_attr_great_1_1_ps slices_IndexFuncasl_uint32_uint32_at_attr_great_1_1_rs slices_IndexFuncasl_uint32_uint32_at_attr_great_1_1_L
theorem ct_slices_IndexFuncasl_uint32_uint32_at_attr_great_1_1_ok : SoundCt Tryd.prog f_slices_IndexFuncasl_uint32_uint32 ct_slices_IndexFuncasl_uint32_uint32_at_attr_great_1_1 := ctRd_sound slices_IndexFuncasl_uint32_uint32_at_attr_great_1_1_fq
def plan_slices_ContainsFuncasl_uint32_uint32_at_attr_great_1_1 : PPlan := ⟨[], [], [], [], [], []⟩
theorem k_slices_ContainsFuncasl_uint32_uint32_at_attr_great_1_1 : Known Tryd.prog f_slices_ContainsFuncasl_uint32_uint32 Tryd.f59 plan_slices_ContainsFuncasl_uint32_uint32_at_attr_great_1_1.plan (bodyOf Tryd.f59) := by refine ⟨Tryd.func59, ?_, ?_, ?_, ?_, ?_⟩ <;> kernel_rfl
abbrev slices_ContainsFuncasl_uint32_uint32_at_attr_great_1_1_ps : List Pk := [Pk.lst [Kd.int .u32], Pk.fn 60]
abbrev slices_ContainsFuncasl_uint32_uint32_at_attr_great_1_1_rs : List Pk := [Pk.bool]
def slices_ContainsFuncasl_uint32_uint32_at_attr_great_1_1_q (s0 : List UInt32) (K : Bool → Prop) : Prop :=
 (WfPs slices_IndexFuncasl_uint32_uint32_at_attr_great_1_1_ps (s0, (), ()) →
 slices_IndexFuncasl_uint32_uint32_at_attr_great_1_1_q s0 (fun x7 =>
 WfPs slices_IndexFuncasl_uint32_uint32_at_attr_great_1_1_rs (x7, ()) →
 K (decide ((x7 : Int) ≥ 0))))
noncomputable def tab_slices_ContainsFuncasl_uint32_uint32_at_attr_great_1_1 : Tab := ⟨[(f_slices_IndexFuncasl_uint32_uint32, ctDisp 1 [(f_attr_great_1_1, ct_slices_IndexFuncasl_uint32_uint32_at_attr_great_1_1)])], []⟩
abbrev slices_ContainsFuncasl_uint32_uint32_at_attr_great_1_1_L (x : PkTs slices_ContainsFuncasl_uint32_uint32_at_attr_great_1_1_ps) (K : PkTs slices_ContainsFuncasl_uint32_uint32_at_attr_great_1_1_rs → Prop) : Prop := slices_ContainsFuncasl_uint32_uint32_at_attr_great_1_1_q x.1 (fun r0 => K (r0, ()))
theorem slices_ContainsFuncasl_uint32_uint32_at_attr_great_1_1_eq : slices_ContainsFuncasl_uint32_uint32_at_attr_great_1_1_L = fun x K => PCode Tryd.prog tab_slices_ContainsFuncasl_uint32_uint32_at_attr_great_1_1 plan_slices_ContainsFuncasl_uint32_uint32_at_attr_great_1_1 (bodyOf Tryd.f59) (parS slices_ContainsFuncasl_uint32_uint32_at_attr_great_1_1_ps x) (PRet Tryd.prog Tryd.f59.results.toList fun a st => outP slices_ContainsFuncasl_uint32_uint32_at_attr_great_1_1_rs st a K) := by kernel_rfl
theorem slices_ContainsFuncasl_uint32_uint32_at_attr_great_1_1_fq : FnQ Tryd.prog f_slices_ContainsFuncasl_uint32_uint32 slices_ContainsFuncasl_uint32_uint32_at_attr_great_1_1_ps slices_ContainsFuncasl_uint32_uint32_at_attr_great_1_1_rs slices_ContainsFuncasl_uint32_uint32_at_attr_great_1_1_L := (fnQ_of k_slices_ContainsFuncasl_uint32_uint32_at_attr_great_1_1 (tab := tab_slices_ContainsFuncasl_uint32_uint32_at_attr_great_1_1) ⟨⟨ctDisp_sound ⟨ct_slices_IndexFuncasl_uint32_uint32_at_attr_great_1_1_ok, trivial⟩, trivial⟩, trivial⟩ rfl).of_eq slices_ContainsFuncasl_uint32_uint32_at_attr_great_1_1_eq
noncomputable def ct_slices_ContainsFuncasl_uint32_uint32_at_attr_great_1_1 : Ct := ctRd slices_ContainsFuncasl_uint32_uint32_at_attr_great_1_1_ps slices_ContainsFuncasl_uint32_uint32_at_attr_great_1_1_rs slices_ContainsFuncasl_uint32_uint32_at_attr_great_1_1_L
theorem ct_slices_ContainsFuncasl_uint32_uint32_at_attr_great_1_1_ok : SoundCt Tryd.prog f_slices_ContainsFuncasl_uint32_uint32 ct_slices_ContainsFuncasl_uint32_uint32_at_attr_great_1_1 := ctRd_sound slices_ContainsFuncasl_uint32_uint32_at_attr_great_1_1_fq
def plan_attr_great_1 : PPlan := ⟨[], [], [], [], [], []⟩
theorem k_attr_great_1 : Known Tryd.prog f_attr_great_1 Tryd.f58 plan_attr_great_1.plan (bodyOf Tryd.f58) := by refine ⟨Tryd.func58, ?_, ?_, ?_, ?_, ?_⟩ <;> kernel_rfl
abbrev attr_great_1_ps : List Pk := [Pk.agg [Kd.bool, Kd.lst [Kd.int .u32]]]
abbrev attr_great_1_rs : List Pk := [Pk.bool]
def attr_great_1_q (s0 : Bool × List UInt32) (K : Bool → Prop) : Prop :=
 (WfPs slices_ContainsFuncasl_uint32_uint32_at_attr_great_1_1_ps (s0.2, (), ()) →
 slices_ContainsFuncasl_uint32_uint32_at_attr_great_1_1_q s0.2 (fun x5 =>
 WfPs slices_ContainsFuncasl_uint32_uint32_at_attr_great_1_1_rs (x5, ()) →
 K x5))
noncomputable def tab_attr_great_1 : Tab := ⟨[(f_slices_ContainsFuncasl_uint32_uint32, ctDisp 1 [(f_attr_great_1_1, ct_slices_ContainsFuncasl_uint32_uint32_at_attr_great_1_1)])], []⟩
abbrev attr_great_1_L (x : PkTs attr_great_1_ps) (K : PkTs attr_great_1_rs → Prop) : Prop := attr_great_1_q x.1 (fun r0 => K (r0, ()))
theorem attr_great_1_eq : attr_great_1_L = fun x K => PCode Tryd.prog tab_attr_great_1 plan_attr_great_1 (bodyOf Tryd.f58) (parS attr_great_1_ps x) (PRet Tryd.prog Tryd.f58.results.toList fun a st => outP attr_great_1_rs st a K) := by kernel_rfl
theorem attr_great_1_fq : FnQ Tryd.prog f_attr_great_1 attr_great_1_ps attr_great_1_rs attr_great_1_L := (fnQ_of k_attr_great_1 (tab := tab_attr_great_1) ⟨⟨ctDisp_sound ⟨ct_slices_ContainsFuncasl_uint32_uint32_at_attr_great_1_1_ok, trivial⟩, trivial⟩, trivial⟩ rfl).of_eq attr_great_1_eq
noncomputable def ct_attr_great_1 : Ct := ctRd attr_great_1_ps attr_great_1_rs attr_great_1_L
theorem ct_attr_great_1_ok : SoundCt Tryd.prog f_attr_great_1 ct_attr_great_1 := ctRd_sound attr_great_1_fq
def pl_slices_IndexFuncasl_api_Segment_api_Segment_at_attr_great_1_2 : PLoop := ⟨[(8, PK.int .i64)], [0, 1, 7], []⟩
def plan_slices_IndexFuncasl_api_Segment_api_Segment_at_attr_great_1 : PPlan := ⟨[], [(2, pl_slices_IndexFuncasl_api_Segment_api_Segment_at_attr_great_1_2)], [], [], [], []⟩
theorem k_slices_IndexFuncasl_api_Segment_api_Segment_at_attr_great_1 : Known Tryd.prog f_slices_IndexFuncasl_api_Segment_api_Segment Tryd.f76 plan_slices_IndexFuncasl_api_Segment_api_Segment_at_attr_great_1.plan (bodyOf Tryd.f76) := by refine ⟨Tryd.func76, ?_, ?_, ?_, ?_, ?_⟩ <;> kernel_rfl
abbrev slices_IndexFuncasl_api_Segment_api_Segment_at_attr_great_1_ps : List Pk := [Pk.lst [Kd.bool, Kd.lst [Kd.int .u32]], Pk.fn 58]
abbrev slices_IndexFuncasl_api_Segment_api_Segment_at_attr_great_1_rs : List Pk := [Pk.int .i64]
def slices_IndexFuncasl_api_Segment_api_Segment_at_attr_great_1_l2 (s0 : List (Bool × List UInt32)) (x8 : Int) (next2 : (Int × Unit) → Prop) (K : Int → Prop) : Prop :=
 IfB (decide ((x8 : Int) < (s0.length : Int)))
 ((0 : Int) ≤ x8 ∧ AtN s0 x8.toNat fun x14 =>
 WfT ks_bool_lst_int_u32 x14 →
 (WfPs attr_great_1_ps (x14, ()) →
 attr_great_1_q x14 (fun x16 =>
 WfPs attr_great_1_rs (x16, ()) →
 IfB x16
 (K x8)
 (next2 ((IntKind.wrap .i64 (x8 + 1)), ())))))
 (K (-1))
def slices_IndexFuncasl_api_Segment_api_Segment_at_attr_great_1_q (s0 : List (Bool × List UInt32)) (K : Int → Prop) : Prop :=
 LoopJ (Int × Unit) ((0 : Int), ()) fun y next =>
 WfY pl_slices_IndexFuncasl_api_Segment_api_Segment_at_attr_great_1_2.kinds y →
 slices_IndexFuncasl_api_Segment_api_Segment_at_attr_great_1_l2 s0 y.1 next K
noncomputable def tab_slices_IndexFuncasl_api_Segment_api_Segment_at_attr_great_1 : Tab := ⟨[(f_attr_great_1, ct_attr_great_1)], []⟩
abbrev slices_IndexFuncasl_api_Segment_api_Segment_at_attr_great_1_L (x : PkTs slices_IndexFuncasl_api_Segment_api_Segment_at_attr_great_1_ps) (K : PkTs slices_IndexFuncasl_api_Segment_api_Segment_at_attr_great_1_rs → Prop) : Prop := slices_IndexFuncasl_api_Segment_api_Segment_at_attr_great_1_q x.1 (fun r0 => K (r0, ()))
theorem slices_IndexFuncasl_api_Segment_api_Segment_at_attr_great_1_eq : slices_IndexFuncasl_api_Segment_api_Segment_at_attr_great_1_L = fun x K => PCode Tryd.prog tab_slices_IndexFuncasl_api_Segment_api_Segment_at_attr_great_1 plan_slices_IndexFuncasl_api_Segment_api_Segment_at_attr_great_1 (bodyOf Tryd.f76) (parS slices_IndexFuncasl_api_Segment_api_Segment_at_attr_great_1_ps x) (PRet Tryd.prog Tryd.f76.results.toList fun a st => outP slices_IndexFuncasl_api_Segment_api_Segment_at_attr_great_1_rs st a K) := by kernel_rfl
theorem slices_IndexFuncasl_api_Segment_api_Segment_at_attr_great_1_fq : FnQ Tryd.prog f_slices_IndexFuncasl_api_Segment_api_Segment slices_IndexFuncasl_api_Segment_api_Segment_at_attr_great_1_ps slices_IndexFuncasl_api_Segment_api_Segment_at_attr_great_1_rs slices_IndexFuncasl_api_Segment_api_Segment_at_attr_great_1_L := (fnQ_of k_slices_IndexFuncasl_api_Segment_api_Segment_at_attr_great_1 (tab := tab_slices_IndexFuncasl_api_Segment_api_Segment_at_attr_great_1) ⟨⟨ct_attr_great_1_ok, trivial⟩, trivial⟩ rfl).of_eq slices_IndexFuncasl_api_Segment_api_Segment_at_attr_great_1_eq
noncomputable def ct_slices_IndexFuncasl_api_Segment_api_Segment_at_attr_great_1 : Ct := ctRd slices_IndexFuncasl_api_Segment_api_Segment_at_attr_great_1_ps slices_IndexFuncasl_api_Segment_api_Segment_at_attr_great_1_rs slices_IndexFuncasl_api_Segment_api_Segment_at_attr_great_1_L
theorem ct_slices_IndexFuncasl_api_Segment_api_Segment_at_attr_great_1_ok : SoundCt Tryd.prog f_slices_IndexFuncasl_api_Segment_api_Segment ct_slices_IndexFuncasl_api_Segment_api_Segment_at_attr_great_1 := ctRd_sound slices_IndexFuncasl_api_Segment_api_Segment_at_attr_great_1_fq
def plan_slices_ContainsFuncasl_api_Segment_api_Segment_at_attr_great_1 : PPlan := ⟨[], [], [], [], [], []⟩
theorem k_slices_ContainsFuncasl_api_Segment_api_Segment_at_attr_great_1 : Known Tryd.prog f_slices_ContainsFuncasl_api_Segment_api_Segment Tryd.f57 plan_slices_ContainsFuncasl_api_Segment_api_Segment_at_attr_great_1.plan (bodyOf Tryd.f57) := by refine ⟨Tryd.func57, ?_, ?_, ?_, ?_, ?_⟩ <;> kernel_rfl
abbrev slices_ContainsFuncasl_api_Segment_api_Segment_at_attr_great_1_ps : List Pk := [Pk.lst [Kd.bool, Kd.lst [Kd.int .u32]], Pk.fn 58]
abbrev slices_ContainsFuncasl_api_Segment_api_Segment_at_attr_great_1_rs : List Pk := [Pk.bool]
def slices_ContainsFuncasl_api_Segment_api_Segment_at_attr_great_1_q (s0 : List (Bool × List UInt32)) (K : Bool → Prop) : Prop :=
 (WfPs slices_IndexFuncasl_api_Segment_api_Segment_at_attr_great_1_ps (s0, (), ()) →
 slices_IndexFuncasl_api_Segment_api_Segment_at_attr_great_1_q s0 (fun x7 =>
 WfPs slices_IndexFuncasl_api_Segment_api_Segment_at_attr_great_1_rs (x7, ()) →
 K (decide ((x7 : Int) ≥ 0))))
noncomputable def tab_slices_ContainsFuncasl_api_Segment_api_Segment_at_attr_great_1 : Tab := ⟨[(f_slices_IndexFuncasl_api_Segment_api_Segment, ctDisp 1 [(f_attr_great_1, ct_slices_IndexFuncasl_api_Segment_api_Segment_at_attr_great_1)])], []⟩
abbrev slices_ContainsFuncasl_api_Segment_api_Segment_at_attr_great_1_L (x : PkTs slices_ContainsFuncasl_api_Segment_api_Segment_at_attr_great_1_ps) (K : PkTs slices_ContainsFuncasl_api_Segment_api_Segment_at_attr_great_1_rs → Prop) : Prop := slices_ContainsFuncasl_api_Segment_api_Segment_at_attr_great_1_q x.1 (fun r0 => K (r0, ()))
theorem slices_ContainsFuncasl_api_Segment_api_Segment_at_attr_great_1_eq : slices_ContainsFuncasl_api_Segment_api_Segment_at_attr_great_1_L = fun x K => PCode Tryd.prog tab_slices_ContainsFuncasl_api_Segment_api_Segment_at_attr_great_1 plan_slices_ContainsFuncasl_api_Segment_api_Segment_at_attr_great_1 (bodyOf Tryd.f57) (parS slices_ContainsFuncasl_api_Segment_api_Segment_at_attr_great_1_ps x) (PRet Tryd.prog Tryd.f57.results.toList fun a st => outP slices_ContainsFuncasl_api_Segment_api_Segment_at_attr_great_1_rs st a K) := by kernel_rfl
theorem slices_ContainsFuncasl_api_Segment_api_Segment_at_attr_great_1_fq : FnQ Tryd.prog f_slices_ContainsFuncasl_api_Segment_api_Segment slices_ContainsFuncasl_api_Segment_api_Segment_at_attr_great_1_ps slices_ContainsFuncasl_api_Segment_api_Segment_at_attr_great_1_rs slices_ContainsFuncasl_api_Segment_api_Segment_at_attr_great_1_L := (fnQ_of k_slices_ContainsFuncasl_api_Segment_api_Segment_at_attr_great_1 (tab := tab_slices_ContainsFuncasl_api_Segment_api_Segment_at_attr_great_1) ⟨⟨ctDisp_sound ⟨ct_slices_IndexFuncasl_api_Segment_api_Segment_at_attr_great_1_ok, trivial⟩, trivial⟩, trivial⟩ rfl).of_eq slices_ContainsFuncasl_api_Segment_api_Segment_at_attr_great_1_eq
noncomputable def ct_slices_ContainsFuncasl_api_Segment_api_Segment_at_attr_great_1 : Ct := ctRd slices_ContainsFuncasl_api_Segment_api_Segment_at_attr_great_1_ps slices_ContainsFuncasl_api_Segment_api_Segment_at_attr_great_1_rs slices_ContainsFuncasl_api_Segment_api_Segment_at_attr_great_1_L
theorem ct_slices_ContainsFuncasl_api_Segment_api_Segment_at_attr_great_1_ok : SoundCt Tryd.prog f_slices_ContainsFuncasl_api_Segment_api_Segment ct_slices_ContainsFuncasl_api_Segment_api_Segment_at_attr_great_1 := ctRd_sound slices_ContainsFuncasl_api_Segment_api_Segment_at_attr_great_1_fq
def plan_attr_great : PPlan := ⟨[], [], [], [], [], []⟩
theorem k_attr_great : Known Tryd.prog f_attr_great Tryd.f38 plan_attr_great.plan (bodyOf Tryd.f38) := by refine ⟨Tryd.func38, ?_, ?_, ?_, ?_, ?_⟩ <;> kernel_rfl
abbrev attr_great_ps : List Pk := [Pk.lst [Kd.bool, Kd.lst [Kd.int .u32]]]
abbrev attr_great_rs : List Pk := [Pk.bool]
def attr_great_q (p0 : List (Bool × List UInt32)) (K : Bool → Prop) : Prop :=
 (WfPs slices_ContainsFuncasl_api_Segment_api_Segment_at_attr_great_1_ps (p0, (), ()) →
 slices_ContainsFuncasl_api_Segment_api_Segment_at_attr_great_1_q p0 (fun x4 =>
 WfPs slices_ContainsFuncasl_api_Segment_api_Segment_at_attr_great_1_rs (x4, ()) →
 K x4))
noncomputable def tab_attr_great : Tab := ⟨[(f_slices_ContainsFuncasl_api_Segment_api_Segment, ctDisp 1 [(f_attr_great_1, ct_slices_ContainsFuncasl_api_Segment_api_Segment_at_attr_great_1)])], []⟩
abbrev attr_great_L (x : PkTs attr_great_ps) (K : PkTs attr_great_rs → Prop) : Prop := attr_great_q x.1 (fun r0 => K (r0, ()))
theorem attr_great_eq : attr_great_L = fun x K => PCode Tryd.prog tab_attr_great plan_attr_great (bodyOf Tryd.f38) (parS attr_great_ps x) (PRet Tryd.prog Tryd.f38.results.toList fun a st => outP attr_great_rs st a K) := by kernel_rfl
theorem attr_great_fq : FnQ Tryd.prog f_attr_great attr_great_ps attr_great_rs attr_great_L := (fnQ_of k_attr_great (tab := tab_attr_great) ⟨⟨ctDisp_sound ⟨ct_slices_ContainsFuncasl_api_Segment_api_Segment_at_attr_great_1_ok, trivial⟩, trivial⟩, trivial⟩ rfl).of_eq attr_great_eq
noncomputable def ct_attr_great : Ct := ctRd attr_great_ps attr_great_rs attr_great_L
theorem ct_attr_great_ok : SoundCt Tryd.prog f_attr_great ct_attr_great := ctRd_sound attr_great_fq
def pl_attr_Put_16 : PLoop := ⟨[(87, PK.int .i64)], [7, 85, 86], [(7, [PK.row T_uint8 [Kd.int .u8]])]⟩
def plan_attr_Put : PPlan := ⟨[(14, [0, 1, 2, 4, 5, 3, 6, 7, 8], [80])], [(16, pl_attr_Put_16)], [], [], [], []⟩
theorem k_attr_Put : Known Tryd.prog f_attr_Put Tryd.f20 plan_attr_Put.plan (bodyOf Tryd.f20) := by refine ⟨Tryd.func20, ?_, ?_, ?_, ?_, ?_⟩ <;> kernel_rfl
abbrev attr_Put_ps : List Pk := [Pk.agg [Kd.int .i64, Kd.lst [Kd.bool, Kd.lst [Kd.int .u32]], Kd.int .u32, Kd.bool, Kd.int .u32, Kd.bool, Kd.int .u32, Kd.bool, Kd.bool, Kd.int .u32, Kd.int .u32, Kd.lst [Kd.int .u32], Kd.lst [Kd.int .i64, Kd.lst [Kd.int .u8]]], Pk.bool]
abbrev attr_Put_rs : List Pk := [Pk.own T_uint8 [Kd.int .u8], Pk.int .i64]
def attr_Put_l16 (a0 : Ty1) (x87 : Int) (c0 : List UInt8) (next16 : (Int × List UInt8 × Unit) → Prop) (K : List UInt8 → Int → Prop) : Prop :=
 IfB (decide ((x87 : Int) < (a0.2.2.2.2.2.2.2.2.2.2.2.2.length : Int)))
 ((0 : Int) ≤ x87 ∧ AtN a0.2.2.2.2.2.2.2.2.2.2.2.2 x87.toNat fun x89 =>
 WfT ks_int_i64_lst_int_u8 x89 →
 (WfY attr_writer_put_os (c0, ()) →
 WfPs attr_writer_put_ps ((224 : Int), x89.1, ([x89.2] : List (List UInt8)), ()) →
 attr_writer_put_q c0 (224 : Int) x89.1 ([x89.2] : List (List UInt8)) (fun ox970 =>
 WfY attr_writer_put_os (ox970, ()) →
 WfPs attr_writer_put_rs () →
 next16 ((IntKind.wrap .i64 (x87 + 1)), ox970, ()))))
 (K c0 0)
def attr_Put_j4 (j13 : List UInt8) (a0 : Ty1) (K : List UInt8 → Int → Prop) : Prop :=
 LoopJ (Int × List UInt8 × Unit) ((0 : Int), j13, ()) fun y next =>
 WfY pl_attr_Put_16.kinds y →
 attr_Put_l16 a0 y.1 y.2.1 next K
def attr_Put_j3 (a0 : Ty1) (j13 : List UInt8) (K : List UInt8 → Int → Prop) : Prop :=
 attr_Put_j4 j13 a0 K
def attr_Put_j2 (a0 : Ty1) (j14 : List UInt8) (j14_1 : Bool) (K : List UInt8 → Int → Prop) : Prop :=
 IfB j14_1
 ((WfPs attr_num_ps ((a0.2.2.2.2.2.2.2.2.2.1.toNat : Int), ()) →
 attr_num_q (a0.2.2.2.2.2.2.2.2.2.1.toNat : Int) (fun x78 =>
 WfPs attr_num_rs (x78, ()) →
 (WfPs attr_num_ps ((a0.2.2.2.2.2.2.2.2.2.2.1.toNat : Int), ()) →
 attr_num_q (a0.2.2.2.2.2.2.2.2.2.2.1.toNat : Int) (fun x81 =>
 WfPs attr_num_rs (x81, ()) →
 (WfY attr_writer_usual_os (j14, ()) →
 WfPs attr_writer_usual_ps ((18 : Int), ([x78, x81] : List (List UInt8)), ()) →
 attr_writer_usual_q j14 (18 : Int) ([x78, x81] : List (List UInt8)) (fun ox830 =>
 WfY attr_writer_usual_os (ox830, ()) →
 WfPs attr_writer_usual_rs () →
 attr_Put_j3 a0 ox830 K)))))))
 (attr_Put_j3 a0 j14 K)
def attr_Put_j1 (four1 : Bool) (a0 : Ty1) (j14 : List UInt8) (K : List UInt8 → Int → Prop) : Prop :=
 IfB (!four1)
 (IfB a0.2.2.2.2.2.2.2.2.1
 (attr_Put_j2 a0 j14 (decide (((a0.2.2.2.2.2.2.2.2.2.1.toNat : Int) : Int) > 65535)) K)
 (attr_Put_j2 a0 j14 false K))
 (attr_Put_j2 a0 j14 false K)
def attr_Put_j0 (four1 : Bool) (a0 : Ty1) (ox460 : List UInt8) (j15 : Bool) (K : List UInt8 → Int → Prop) : Prop :=
 IfB j15
 ((WfPs path_Put_ps (a0.2.1, true, ()) →
 path_Put_q a0.2.1 true (fun x57r0 x57r1 =>
 WfPs path_Put_rs (x57r0, x57r1, ()) →
 (WfY attr_writer_usual_os (ox460, ()) →
 WfPs attr_writer_usual_ps ((17 : Int), ([x57r0] : List (List UInt8)), ()) →
 attr_writer_usual_q ox460 (17 : Int) ([x57r0] : List (List UInt8)) (fun ox630 =>
 WfY attr_writer_usual_os (ox630, ()) →
 WfPs attr_writer_usual_rs () →
 attr_Put_j1 four1 a0 ox630 K)))))
 (attr_Put_j1 four1 a0 ox460 K)
def attr_Put_q (a0 : Ty1) (four1 : Bool) (K : List UInt8 → Int → Prop) : Prop :=
 (WfPs attr_Check_ps (((a0.1, a0.2.1, (ofI .u32 (a0.2.2.1.toNat : Int)), a0.2.2.2.1, (ofI .u32 (a0.2.2.2.2.1.toNat : Int)), a0.2.2.2.2.2.1, (ofI .u32 (a0.2.2.2.2.2.2.1.toNat : Int)), a0.2.2.2.2.2.2.2.1, a0.2.2.2.2.2.2.2.2.1, (ofI .u32 (a0.2.2.2.2.2.2.2.2.2.1.toNat : Int)), (ofI .u32 (a0.2.2.2.2.2.2.2.2.2.2.1.toNat : Int)), a0.2.2.2.2.2.2.2.2.2.2.2.1, a0.2.2.2.2.2.2.2.2.2.2.2.2) : Ty1), ()) →
 attr_Check_q ((a0.1, a0.2.1, (ofI .u32 (a0.2.2.1.toNat : Int)), a0.2.2.2.1, (ofI .u32 (a0.2.2.2.2.1.toNat : Int)), a0.2.2.2.2.2.1, (ofI .u32 (a0.2.2.2.2.2.2.1.toNat : Int)), a0.2.2.2.2.2.2.2.1, a0.2.2.2.2.2.2.2.2.1, (ofI .u32 (a0.2.2.2.2.2.2.2.2.2.1.toNat : Int)), (ofI .u32 (a0.2.2.2.2.2.2.2.2.2.2.1.toNat : Int)), a0.2.2.2.2.2.2.2.2.2.2.2.1, a0.2.2.2.2.2.2.2.2.2.2.2.2) : Ty1) (fun x13 =>
 WfPs attr_Check_rs (x13, ()) →
 IfB ((x13 : Int) != 0)
 (K ([] : List UInt8) x13)
 ((WfPs path_Put_ps (a0.2.1, four1, ()) →
 path_Put_q a0.2.1 four1 (fun x23r0 x23r1 =>
 WfPs path_Put_rs (x23r0, x23r1, ()) →
 (WfY attr_writer_usual_os (([] : List UInt8), ()) →
 WfPs attr_writer_usual_ps ((1 : Int), ([([(ofI .u8 (IntKind.wrap .u8 a0.1))] : List UInt8)] : List (List UInt8)), ()) →
 attr_writer_usual_q ([] : List UInt8) (1 : Int) ([([(ofI .u8 (IntKind.wrap .u8 a0.1))] : List UInt8)] : List (List UInt8)) (fun ox320 =>
 WfY attr_writer_usual_os (ox320, ()) →
 WfPs attr_writer_usual_rs () →
 (WfY attr_writer_usual_os (ox320, ()) →
 WfPs attr_writer_usual_ps ((2 : Int), ([x23r0] : List (List UInt8)), ()) →
 attr_writer_usual_q ox320 (2 : Int) ([x23r0] : List (List UInt8)) (fun ox360 =>
 WfY attr_writer_usual_os (ox360, ()) →
 WfPs attr_writer_usual_rs () →
 (WfPs attr_num_ps ((a0.2.2.1.toNat : Int), ()) →
 attr_num_q (a0.2.2.1.toNat : Int) (fun x40 =>
 WfPs attr_num_rs (x40, ()) →
 (WfY attr_writer_usual_os (ox360, ()) →
 WfPs attr_writer_usual_ps ((3 : Int), ([x40] : List (List UInt8)), ()) →
 attr_writer_usual_q ox360 (3 : Int) ([x40] : List (List UInt8)) (fun ox420 =>
 WfY attr_writer_usual_os (ox420, ()) →
 WfPs attr_writer_usual_rs () →
 (WfY attr_writer_perhaps_os (ox420, ()) →
 WfPs attr_writer_perhaps_ps (((a0.1, a0.2.1, (ofI .u32 (a0.2.2.1.toNat : Int)), a0.2.2.2.1, (ofI .u32 (a0.2.2.2.2.1.toNat : Int)), a0.2.2.2.2.2.1, (ofI .u32 (a0.2.2.2.2.2.2.1.toNat : Int)), a0.2.2.2.2.2.2.2.1, a0.2.2.2.2.2.2.2.2.1, (ofI .u32 (a0.2.2.2.2.2.2.2.2.2.1.toNat : Int)), (ofI .u32 (a0.2.2.2.2.2.2.2.2.2.2.1.toNat : Int)), a0.2.2.2.2.2.2.2.2.2.2.2.1, a0.2.2.2.2.2.2.2.2.2.2.2.2) : Ty1), four1, ()) →
 attr_writer_perhaps_q ox420 ((a0.1, a0.2.1, (ofI .u32 (a0.2.2.1.toNat : Int)), a0.2.2.2.1, (ofI .u32 (a0.2.2.2.2.1.toNat : Int)), a0.2.2.2.2.2.1, (ofI .u32 (a0.2.2.2.2.2.2.1.toNat : Int)), a0.2.2.2.2.2.2.2.1, a0.2.2.2.2.2.2.2.2.1, (ofI .u32 (a0.2.2.2.2.2.2.2.2.2.1.toNat : Int)), (ofI .u32 (a0.2.2.2.2.2.2.2.2.2.2.1.toNat : Int)), a0.2.2.2.2.2.2.2.2.2.2.2.1, a0.2.2.2.2.2.2.2.2.2.2.2.2) : Ty1) four1 (fun ox460 =>
 WfY attr_writer_perhaps_os (ox460, ()) →
 WfPs attr_writer_perhaps_rs () →
 IfB (!four1)
 ((WfPs attr_great_ps (a0.2.1, ()) →
 attr_great_q a0.2.1 (fun x52 =>
 WfPs attr_great_rs (x52, ()) →
 attr_Put_j0 four1 a0 ox460 x52 K)))
 (attr_Put_j0 four1 a0 ox460 false K))))))))))))))))
noncomputable def tab_attr_Put : Tab := ⟨[(f_attr_Check, ct_attr_Check), (f_path_Put, ct_path_Put), (f_attr_writer_usual, ct_attr_writer_usual), (f_attr_num, ct_attr_num), (f_attr_writer_perhaps, ct_attr_writer_perhaps), (f_attr_great, ct_attr_great), (f_attr_writer_put, ct_attr_writer_put)], []⟩
abbrev attr_Put_L (x : PkTs attr_Put_ps) (K : PkTs attr_Put_rs → Prop) : Prop := attr_Put_q x.1 x.2.1 (fun r0 r1 => K (r0, r1, ()))
theorem attr_Put_eq : attr_Put_L = fun x K => PCode Tryd.prog tab_attr_Put plan_attr_Put (bodyOf Tryd.f20) (parS attr_Put_ps x) (PRet Tryd.prog Tryd.f20.results.toList fun a st => outP attr_Put_rs st a K) := by kernel_rfl
theorem attr_Put_fq : FnQ Tryd.prog f_attr_Put attr_Put_ps attr_Put_rs attr_Put_L := (fnQ_of k_attr_Put (tab := tab_attr_Put) ⟨⟨ct_attr_Check_ok, ct_path_Put_ok, ct_attr_writer_usual_ok, ct_attr_num_ok, ct_attr_writer_perhaps_ok, ct_attr_great_ok, ct_attr_writer_put_ok, trivial⟩, trivial⟩ rfl).of_eq attr_Put_eq
noncomputable def ct_attr_Put : Ct := ctVal attr_Put_ps attr_Put_rs attr_Put_L
theorem ct_attr_Put_ok : SoundCt Tryd.prog f_attr_Put ct_attr_Put := ctVal_sound attr_Put_fq
def plan_upd_sized : PPlan := ⟨[], [], [], [], [], []⟩
theorem k_upd_sized : Known Tryd.prog f_upd_sized Tryd.f22 plan_upd_sized.plan (bodyOf Tryd.f22) := by refine ⟨Tryd.func22, ?_, ?_, ?_, ?_, ?_⟩ <;> kernel_rfl
abbrev upd_sized_ps : List Pk := [Pk.lst [Kd.int .u8]]
abbrev upd_sized_rs : List Pk := [Pk.own T_uint8 [Kd.int .u8]]
def upd_sized_q (b0 : List UInt8) (K : List UInt8 → Prop) : Prop :=
 (0 : Int) ≤ 8 ∧
 (WfPs slices_Concatasl_byte_byte_ps (([([(ofI .u8 (IntKind.wrap .u8 (Int.fdiv (b0.length : Int) 256))), (ofI .u8 (IntKind.wrap .u8 (b0.length : Int)))] : List UInt8), b0] : List (List UInt8)), ()) →
 slices_Concatasl_byte_byte_q ([([(ofI .u8 (IntKind.wrap .u8 (Int.fdiv (b0.length : Int) 256))), (ofI .u8 (IntKind.wrap .u8 (b0.length : Int)))] : List UInt8), b0] : List (List UInt8)) (fun x13 =>
 WfPs slices_Concatasl_byte_byte_rs (x13, ()) →
 K x13))
noncomputable def tab_upd_sized : Tab := ⟨[(f_slices_Concatasl_byte_byte, ct_slices_Concatasl_byte_byte)], []⟩
abbrev upd_sized_L (x : PkTs upd_sized_ps) (K : PkTs upd_sized_rs → Prop) : Prop := upd_sized_q x.1 (fun r0 => K (r0, ()))
theorem upd_sized_eq : upd_sized_L = fun x K => PCode Tryd.prog tab_upd_sized plan_upd_sized (bodyOf Tryd.f22) (parS upd_sized_ps x) (PRet Tryd.prog Tryd.f22.results.toList fun a st => outP upd_sized_rs st a K) := by kernel_rfl
theorem upd_sized_fq : FnQ Tryd.prog f_upd_sized upd_sized_ps upd_sized_rs upd_sized_L := (fnQ_of k_upd_sized (tab := tab_upd_sized) ⟨⟨ct_slices_Concatasl_byte_byte_ok, trivial⟩, trivial⟩ rfl).of_eq upd_sized_eq
noncomputable def ct_upd_sized : Ct := ctVal upd_sized_ps upd_sized_rs upd_sized_L
theorem ct_upd_sized_ok : SoundCt Tryd.prog f_upd_sized ct_upd_sized := ctVal_sound upd_sized_fq
def plan_upd_Build : PPlan := ⟨[], [], [], [], [], []⟩
theorem k_upd_Build : Known Tryd.prog f_upd_Build Tryd.f9 plan_upd_Build.plan (bodyOf Tryd.f9) := by refine ⟨Tryd.func9, ?_, ?_, ?_, ?_, ?_⟩ <;> kernel_rfl
abbrev upd_Build_ps : List Pk := [Pk.agg [Kd.lst [Kd.int .u32, Kd.int .i64], Kd.lst [Kd.int .u32, Kd.int .i64], Kd.int .i64, Kd.lst [Kd.bool, Kd.lst [Kd.int .u32]], Kd.int .u32, Kd.bool, Kd.int .u32, Kd.bool, Kd.int .u32, Kd.bool, Kd.bool, Kd.int .u32, Kd.int .u32, Kd.lst [Kd.int .u32], Kd.lst [Kd.int .i64, Kd.lst [Kd.int .u8]], Kd.int .i64], Pk.bool]
abbrev upd_Build_rs : List Pk := [Pk.own T_uint8 [Kd.int .u8], Pk.int .i64]
def upd_Build_j1 (x16r0 : List UInt8) (x22r0 : List UInt8) (j2 : List UInt8) (K : List UInt8 → Int → Prop) : Prop :=
 IfB (decide (((IntKind.wrap .i64 ((IntKind.wrap .i64 ((IntKind.wrap .i64 ((x16r0.length : Int) + (j2.length : Int))) + (x22r0.length : Int))) + 4)) : Int) > 4077))
 (K ([] : List UInt8) 3)
 ((WfPs upd_sized_ps (x16r0, ()) →
 upd_sized_q x16r0 (fun x57 =>
 WfPs upd_sized_rs (x57, ()) →
 (WfPs upd_sized_ps (j2, ()) →
 upd_sized_q j2 (fun x59 =>
 WfPs upd_sized_rs (x59, ()) →
 (WfPs slices_Concatasl_byte_byte_ps (([x57, x59, x22r0] : List (List UInt8)), ()) →
 slices_Concatasl_byte_byte_q ([x57, x59, x22r0] : List (List UInt8)) (fun x62 =>
 WfPs slices_Concatasl_byte_byte_rs (x62, ()) →
 K x62 0)))))))
def upd_Build_j0 (four1 : Bool) (u0 : List (UInt32 × Int) × List (UInt32 × Int) × Int × List (Bool × List UInt32) × UInt32 × Bool × UInt32 × Bool × UInt32 × Bool × Bool × UInt32 × UInt32 × List UInt32 × List (Int × List UInt8) × Int) (x16r0 : List UInt8) (x22r0 : List UInt8) (j19 : Bool) (K : List UInt8 → Int → Prop) : Prop :=
 IfB j19
 (K ([] : List UInt8) 2)
 (IfB (decide (((u0.2.1.length : Int) : Int) > 0))
 ((WfPs attr_Put_ps (((u0.2.2.1, u0.2.2.2.1, (ofI .u32 (u0.2.2.2.2.1.toNat : Int)), u0.2.2.2.2.2.1, (ofI .u32 (u0.2.2.2.2.2.2.1.toNat : Int)), u0.2.2.2.2.2.2.2.1, (ofI .u32 (u0.2.2.2.2.2.2.2.2.1.toNat : Int)), u0.2.2.2.2.2.2.2.2.2.1, u0.2.2.2.2.2.2.2.2.2.2.1, (ofI .u32 (u0.2.2.2.2.2.2.2.2.2.2.2.1.toNat : Int)), (ofI .u32 (u0.2.2.2.2.2.2.2.2.2.2.2.2.1.toNat : Int)), u0.2.2.2.2.2.2.2.2.2.2.2.2.2.1, u0.2.2.2.2.2.2.2.2.2.2.2.2.2.2.1) : Ty1), four1, ()) →
 attr_Put_q ((u0.2.2.1, u0.2.2.2.1, (ofI .u32 (u0.2.2.2.2.1.toNat : Int)), u0.2.2.2.2.2.1, (ofI .u32 (u0.2.2.2.2.2.2.1.toNat : Int)), u0.2.2.2.2.2.2.2.1, (ofI .u32 (u0.2.2.2.2.2.2.2.2.1.toNat : Int)), u0.2.2.2.2.2.2.2.2.2.1, u0.2.2.2.2.2.2.2.2.2.2.1, (ofI .u32 (u0.2.2.2.2.2.2.2.2.2.2.2.1.toNat : Int)), (ofI .u32 (u0.2.2.2.2.2.2.2.2.2.2.2.2.1.toNat : Int)), u0.2.2.2.2.2.2.2.2.2.2.2.2.2.1, u0.2.2.2.2.2.2.2.2.2.2.2.2.2.2.1) : Ty1) four1 (fun x39r0 x39r1 =>
 WfPs attr_Put_rs (x39r0, x39r1, ()) →
 IfB ((x39r1 : Int) != 0)
 (K ([] : List UInt8) x39r1)
 (upd_Build_j1 x16r0 x22r0 x39r0 K))))
 (upd_Build_j1 x16r0 x22r0 ([] : List UInt8) K))
def upd_Build_q (u0 : List (UInt32 × Int) × List (UInt32 × Int) × Int × List (Bool × List UInt32) × UInt32 × Bool × UInt32 × Bool × UInt32 × Bool × Bool × UInt32 × UInt32 × List UInt32 × List (Int × List UInt8) × Int) (four1 : Bool) (K : List UInt8 → Int → Prop) : Prop :=
 (WfPs upd_put_ps (u0.1, ()) →
 upd_put_q u0.1 (fun x16r0 x16r1 =>
 WfPs upd_put_rs (x16r0, x16r1, ()) →
 (WfPs upd_put_ps (u0.2.1, ()) →
 upd_put_q u0.2.1 (fun x22r0 x22r1 =>
 WfPs upd_put_rs (x22r0, x22r1, ()) →
 IfB (!x16r1)
 (upd_Build_j0 four1 u0 x16r0 x22r0 true K)
 (upd_Build_j0 four1 u0 x16r0 x22r0 (!x22r1) K)))))
noncomputable def tab_upd_Build : Tab := ⟨[(f_upd_put, ct_upd_put), (f_attr_Put, ct_attr_Put), (f_slices_Concatasl_byte_byte, ct_slices_Concatasl_byte_byte), (f_upd_sized, ct_upd_sized)], []⟩
abbrev upd_Build_L (x : PkTs upd_Build_ps) (K : PkTs upd_Build_rs → Prop) : Prop := upd_Build_q x.1 x.2.1 (fun r0 r1 => K (r0, r1, ()))
theorem upd_Build_eq : upd_Build_L = fun x K => PCode Tryd.prog tab_upd_Build plan_upd_Build (bodyOf Tryd.f9) (parS upd_Build_ps x) (PRet Tryd.prog Tryd.f9.results.toList fun a st => outP upd_Build_rs st a K) := by kernel_rfl
theorem upd_Build_fq : FnQ Tryd.prog f_upd_Build upd_Build_ps upd_Build_rs upd_Build_L := (fnQ_of k_upd_Build (tab := tab_upd_Build) ⟨⟨ct_upd_put_ok, ct_attr_Put_ok, ct_slices_Concatasl_byte_byte_ok, ct_upd_sized_ok, trivial⟩, trivial⟩ rfl).of_eq upd_Build_eq
noncomputable def ct_upd_Build : Ct := ctVal upd_Build_ps upd_Build_rs upd_Build_L
theorem ct_upd_Build_ok : SoundCt Tryd.prog f_upd_Build ct_upd_Build := ctVal_sound upd_Build_fq
def plan_base_SameBytes : PPlan := ⟨[], [], [], [], [], []⟩
theorem k_base_SameBytes : Known Tryd.prog f_base_SameBytes Tryd.f12 plan_base_SameBytes.plan (bodyOf Tryd.f12) := by refine ⟨Tryd.func12, ?_, ?_, ?_, ?_, ?_⟩ <;> kernel_rfl
abbrev base_SameBytes_ps : List Pk := [Pk.lst [Kd.int .u8], Pk.lst [Kd.int .u8]]
abbrev base_SameBytes_rs : List Pk := [Pk.bool]
def base_SameBytes_q (a0 : List UInt8) (b1 : List UInt8) (K : Bool → Prop) : Prop :=
 K (a0 == b1)
noncomputable def tab_base_SameBytes : Tab := ⟨[], []⟩
abbrev base_SameBytes_L (x : PkTs base_SameBytes_ps) (K : PkTs base_SameBytes_rs → Prop) : Prop := base_SameBytes_q x.1 x.2.1 (fun r0 => K (r0, ()))
theorem base_SameBytes_eq : base_SameBytes_L = fun x K => PCode Tryd.prog tab_base_SameBytes plan_base_SameBytes (bodyOf Tryd.f12) (parS base_SameBytes_ps x) (PRet Tryd.prog Tryd.f12.results.toList fun a st => outP base_SameBytes_rs st a K) := by kernel_rfl
theorem base_SameBytes_fq : FnQ Tryd.prog f_base_SameBytes base_SameBytes_ps base_SameBytes_rs base_SameBytes_L := (fnQ_of k_base_SameBytes (tab := tab_base_SameBytes) ⟨trivial, trivial⟩ rfl).of_eq base_SameBytes_eq
noncomputable def ct_base_SameBytes : Ct := ctRd base_SameBytes_ps base_SameBytes_rs base_SameBytes_L
theorem ct_base_SameBytes_ok : SoundCt Tryd.prog f_base_SameBytes ct_base_SameBytes := ctRd_sound base_SameBytes_fq
def pl_upd_Text_5 : PLoop := ⟨[(3, PK.row T_string [Kd.str]), (8, PK.int .i64)], [1], []⟩
def plan_upd_Text : PPlan := ⟨[(9, [0, 3, 4, 1, 2, 5, 6, 7], [28])], [(5, pl_upd_Text_5)], [], [], [], []⟩
theorem k_upd_Text : Known Tryd.prog f_upd_Text Tryd.f13 plan_upd_Text.plan (bodyOf Tryd.f13) := by refine ⟨Tryd.func13, ?_, ?_, ?_, ?_, ?_⟩ <;> kernel_rfl
abbrev upd_Text_ps : List Pk := [Pk.agg [Kd.int .u32, Kd.int .i64]]
abbrev upd_Text_rs : List Pk := [Pk.str]
def upd_Text_l5 (p0 : UInt32 × Int) (l3 : List (List UInt8)) (x8 : Int) (next5 : (List (List UInt8) × Int × Unit) → Prop) (K : List UInt8 → Prop) : Prop :=
 IfB (decide ((x8 : Int) < 4))
 ((0 : Int) ≤ (IntKind.wrap .i64 (24 - (IntKind.wrap .i64 (8 * x8)))) ∧
 (WfPs strconv_Itoa_ps ((IntKind.wrap .i64 (bitsAnd .u32 (Int.fdiv (p0.1.toNat : Int) (2 ^ (min ((IntKind.wrap .i64 (24 - (IntKind.wrap .i64 (8 * x8)))) : Int).toNat (IntKind.bits .u32)))) 255)), ()) →
 strconv_Itoa_q (IntKind.wrap .i64 (bitsAnd .u32 (Int.fdiv (p0.1.toNat : Int) (2 ^ (min ((IntKind.wrap .i64 (24 - (IntKind.wrap .i64 (8 * x8)))) : Int).toNat (IntKind.bits .u32)))) 255)) (fun x20 =>
 WfPs strconv_Itoa_rs (x20, ()) →
 l3.length + ([x20] : List (List UInt8)).length ≤ 8796093022112 ∧
 next5 ((l3 ++ ([x20] : List (List UInt8))), (IntKind.wrap .i64 (x8 + 1)), ()))))
 ((WfPs strings_Join_ps (l3, ([46] : List UInt8), ()) →
 strings_Join_q l3 ([46] : List UInt8) (fun x25 =>
 WfPs strings_Join_rs (x25, ()) →
 x25.length + ([47] : List UInt8).length ≤ lenMax ∧
 (WfPs strconv_Itoa_ps (p0.2, ()) →
 strconv_Itoa_q p0.2 (fun x29 =>
 WfPs strconv_Itoa_rs (x29, ()) →
 (x25 ++ ([47] : List UInt8)).length + x29.length ≤ lenMax ∧
 K ((x25 ++ ([47] : List UInt8)) ++ x29))))))
def upd_Text_q (p0 : UInt32 × Int) (K : List UInt8 → Prop) : Prop :=
 (WfPs upd_Right_ps ((((ofI .u32 (p0.1.toNat : Int)), p0.2) : UInt32 × Int), ()) →
 upd_Right_q (((ofI .u32 (p0.1.toNat : Int)), p0.2) : UInt32 × Int) (fun x6 =>
 WfPs upd_Right_rs (x6, ()) →
 IfB (!x6)
 (K ([] : List UInt8))
 (LoopJ (List (List UInt8) × Int × Unit) (([] : List (List UInt8)), (0 : Int), ()) fun y next =>
 WfY pl_upd_Text_5.kinds y →
 upd_Text_l5 p0 y.1 y.2.1 next K)))
noncomputable def tab_upd_Text : Tab := ⟨[(f_upd_Right, ct_upd_Right), (f_strconv_Itoa, ct_strconv_Itoa), (f_strings_Join, ct_strings_Join)], []⟩
abbrev upd_Text_L (x : PkTs upd_Text_ps) (K : PkTs upd_Text_rs → Prop) : Prop := upd_Text_q x.1 (fun r0 => K (r0, ()))
theorem upd_Text_eq : upd_Text_L = fun x K => PCode Tryd.prog tab_upd_Text plan_upd_Text (bodyOf Tryd.f13) (parS upd_Text_ps x) (PRet Tryd.prog Tryd.f13.results.toList fun a st => outP upd_Text_rs st a K) := by kernel_rfl
theorem upd_Text_fq : FnQ Tryd.prog f_upd_Text upd_Text_ps upd_Text_rs upd_Text_L := (fnQ_of k_upd_Text (tab := tab_upd_Text) ⟨⟨ct_upd_Right_ok, ct_strconv_Itoa_ok, ct_strings_Join_ok, trivial⟩, trivial⟩ rfl).of_eq upd_Text_eq
noncomputable def ct_upd_Text : Ct := ctRd upd_Text_ps upd_Text_rs upd_Text_L
theorem ct_upd_Text_ok : SoundCt Tryd.prog f_upd_Text ct_upd_Text := ctRd_sound upd_Text_fq
def plan_law21_works : PPlan := ⟨[], [], [], [], [], []⟩
theorem k_law21_works : Known Tryd.prog f_law21_works Tryd.f5 plan_law21_works.plan (bodyOf Tryd.f5) := by refine ⟨Tryd.func5, ?_, ?_, ?_, ?_, ?_⟩ <;> kernel_rfl
abbrev law21_works_ps : List Pk := []
abbrev law21_works_rs : List Pk := [Pk.bool]
def law21_works_q  (K : Bool → Prop) : Prop :=
 (WfPs upd_Build_ps (((([((ofI .u32 167772160), 8)] : List (UInt32 × Int)), ([] : List (UInt32 × Int)), 0, ([] : List (Bool × List UInt32)), (ofI .u32 0), false, (ofI .u32 0), false, (ofI .u32 0), false, false, (ofI .u32 0), (ofI .u32 0), ([] : List UInt32), ([] : List (Int × List UInt8)), 0) : List (UInt32 × Int) × List (UInt32 × Int) × Int × List (Bool × List UInt32) × UInt32 × Bool × UInt32 × Bool × UInt32 × Bool × Bool × UInt32 × UInt32 × List UInt32 × List (Int × List UInt8) × Int), false, ()) →
 upd_Build_q ((([((ofI .u32 167772160), 8)] : List (UInt32 × Int)), ([] : List (UInt32 × Int)), 0, ([] : List (Bool × List UInt32)), (ofI .u32 0), false, (ofI .u32 0), false, (ofI .u32 0), false, false, (ofI .u32 0), (ofI .u32 0), ([] : List UInt32), ([] : List (Int × List UInt8)), 0) : List (UInt32 × Int) × List (UInt32 × Int) × Int × List (Bool × List UInt32) × UInt32 × Bool × UInt32 × Bool × UInt32 × Bool × Bool × UInt32 × UInt32 × List UInt32 × List (Int × List UInt8) × Int) false (fun x10r0 x10r1 =>
 WfPs upd_Build_rs (x10r0, x10r1, ()) →
 (WfPs upd_Read_ps (x10r0, false, ()) →
 upd_Read_q x10r0 false (fun x15r0 x15r1 x15r2 =>
 WfPs upd_Read_rs (x15r0, x15r1, x15r2, ()) →
 IfB ((x10r1 : Int) == 0)
 ((WfPs base_SameBytes_ps (x10r0, ([(ofI .u8 0), (ofI .u8 2), (ofI .u8 8), (ofI .u8 10), (ofI .u8 0), (ofI .u8 0)] : List UInt8), ()) →
 base_SameBytes_q x10r0 ([(ofI .u8 0), (ofI .u8 2), (ofI .u8 8), (ofI .u8 10), (ofI .u8 0), (ofI .u8 0)] : List UInt8) (fun x24 =>
 WfPs base_SameBytes_rs (x24, ()) →
 IfB x24
 (IfB x15r2
 (IfB (((x15r0.1.length : Int) : Int) == 1)
 ((0 : Int) ≤ 0 ∧ AtN x15r0.1 0 fun x38 =>
 WfT ks_int_u32_int_i64 x38 →
 IfB ((((x38.1.toNat : Int) : Int) == 167772160) && (((x38.2 : Int) == 8) && true))
 ((0 : Int) ≤ 0 ∧ AtN x15r0.1 0 fun x46 =>
 WfT ks_int_u32_int_i64 x46 →
 (WfPs upd_Text_ps ((((ofI .u32 (x46.1.toNat : Int)), x46.2) : UInt32 × Int), ()) →
 upd_Text_q (((ofI .u32 (x46.1.toNat : Int)), x46.2) : UInt32 × Int) (fun x48 =>
 WfPs upd_Text_rs (x48, ()) →
 K (x48 == ([49, 48, 46, 48, 46, 48, 46, 48, 47, 56] : List UInt8)))))
 (K false))
 (K false))
 (K false))
 (K false))))
 (K false)))))
noncomputable def tab_law21_works : Tab := ⟨[(f_upd_Read, ct_upd_Read), (f_upd_Build, ct_upd_Build), (f_base_SameBytes, ct_base_SameBytes), (f_upd_Text, ct_upd_Text)], []⟩
abbrev law21_works_L (x : PkTs law21_works_ps) (K : PkTs law21_works_rs → Prop) : Prop := law21_works_q  (fun r0 => K (r0, ()))
theorem law21_works_eq : law21_works_L = fun x K => PCode Tryd.prog tab_law21_works plan_law21_works (bodyOf Tryd.f5) (parS law21_works_ps x) (PRet Tryd.prog Tryd.f5.results.toList fun a st => outP law21_works_rs st a K) := by kernel_rfl
theorem law21_works_fq : FnQ Tryd.prog f_law21_works law21_works_ps law21_works_rs law21_works_L := (fnQ_of k_law21_works (tab := tab_law21_works) ⟨⟨ct_upd_Read_ok, ct_upd_Build_ok, ct_base_SameBytes_ok, ct_upd_Text_ok, trivial⟩, trivial⟩ rfl).of_eq law21_works_eq
noncomputable def ct_law21_works : Ct := ctRd law21_works_ps law21_works_rs law21_works_L
theorem ct_law21_works_ok : SoundCt Tryd.prog f_law21_works ct_law21_works := ctRd_sound law21_works_fq
def plan_upd_Within : PPlan := ⟨[(1, [0, 1, 2, 3, 4, 5, 6, 7, 8, 9, 10, 11, 12, 13, 14, 15, 16, 17, 19, 20, 18, 21, 22, 23], [25])], [], [], [], [], []⟩
theorem k_upd_Within : Known Tryd.prog f_upd_Within Tryd.f10 plan_upd_Within.plan (bodyOf Tryd.f10) := by refine ⟨Tryd.func10, ?_, ?_, ?_, ?_, ?_⟩ <;> kernel_rfl
abbrev upd_Within_ps : List Pk := [Pk.agg [Kd.int .u32, Kd.int .i64], Pk.agg [Kd.int .u32, Kd.int .i64]]
abbrev upd_Within_rs : List Pk := [Pk.bool]
def upd_Within_q (p0 : UInt32 × Int) (q1 : UInt32 × Int) (K : Bool → Prop) : Prop :=
 (WfPs upd_Right_ps ((((ofI .u32 (p0.1.toNat : Int)), p0.2) : UInt32 × Int), ()) →
 upd_Right_q (((ofI .u32 (p0.1.toNat : Int)), p0.2) : UInt32 × Int) (fun x6 =>
 WfPs upd_Right_rs (x6, ()) →
 IfB x6
 ((WfPs upd_Right_ps ((((ofI .u32 (q1.1.toNat : Int)), q1.2) : UInt32 × Int), ()) →
 upd_Right_q (((ofI .u32 (q1.1.toNat : Int)), q1.2) : UInt32 × Int) (fun x9 =>
 WfPs upd_Right_rs (x9, ()) →
 IfB x9
 (IfB (decide ((q1.2 : Int) ≥ p0.2))
 ((WfPs upd_mask_ps ((q1.1.toNat : Int), p0.2, ()) →
 upd_mask_q (q1.1.toNat : Int) p0.2 (fun x23 =>
 WfPs upd_mask_rs (x23, ()) →
 K ((x23 : Int) == (p0.1.toNat : Int)))))
 (K false))
 (K false))))
 (K false)))
noncomputable def tab_upd_Within : Tab := ⟨[(f_upd_Right, ct_upd_Right), (f_upd_mask, ct_upd_mask)], []⟩
abbrev upd_Within_L (x : PkTs upd_Within_ps) (K : PkTs upd_Within_rs → Prop) : Prop := upd_Within_q x.1 x.2.1 (fun r0 => K (r0, ()))
theorem upd_Within_eq : upd_Within_L = fun x K => PCode Tryd.prog tab_upd_Within plan_upd_Within (bodyOf Tryd.f10) (parS upd_Within_ps x) (PRet Tryd.prog Tryd.f10.results.toList fun a st => outP upd_Within_rs st a K) := by kernel_rfl
theorem upd_Within_fq : FnQ Tryd.prog f_upd_Within upd_Within_ps upd_Within_rs upd_Within_L := (fnQ_of k_upd_Within (tab := tab_upd_Within) ⟨⟨ct_upd_Right_ok, ct_upd_mask_ok, trivial⟩, trivial⟩ rfl).of_eq upd_Within_eq
noncomputable def ct_upd_Within : Ct := ctRd upd_Within_ps upd_Within_rs upd_Within_L
theorem ct_upd_Within_ok : SoundCt Tryd.prog f_upd_Within ct_upd_Within := ctRd_sound upd_Within_fq
def plan_law21_UpdWithin_1 : PPlan := ⟨[], [], [], [], [], []⟩
theorem k_law21_UpdWithin_1 : Known Tryd.prog f_law21_UpdWithin_1 Tryd.f11 plan_law21_UpdWithin_1.plan (bodyOf Tryd.f11) := by refine ⟨Tryd.func11, ?_, ?_, ?_, ?_, ?_⟩ <;> kernel_rfl
noncomputable def tab_law21_UpdWithin_1 : Tab := ⟨[(f_upd_Within, ct_upd_Within)], []⟩
noncomputable def ct_law21_UpdWithin_1 : Ct := ctInl Tryd.prog tab_law21_UpdWithin_1 plan_law21_UpdWithin_1 (bodyOf Tryd.f11) Tryd.f11.ntmps Tryd.f11.results.toList
theorem ct_law21_UpdWithin_1_ok : SoundCt Tryd.prog f_law21_UpdWithin_1 ct_law21_UpdWithin_1 := ctInl_sound k_law21_UpdWithin_1 ⟨⟨ct_upd_Within_ok, trivial⟩, trivial⟩
def pl_law21_UpdWithin_7 : PLoop := ⟨[(8, PK.int .u64), (9, PK.int .i64)], [2, 3, 4, 7], []⟩
def plan_law21_UpdWithin : PPlan := ⟨[], [(7, pl_law21_UpdWithin_7)], [], [], [], []⟩
theorem k_law21_UpdWithin : Known Tryd.prog f_law21_UpdWithin Tryd.f4 plan_law21_UpdWithin.plan (bodyOf Tryd.f4) := by refine ⟨Tryd.func4, ?_, ?_, ?_, ?_, ?_⟩ <;> kernel_rfl
abbrev law21_UpdWithin_ps : List Pk := [Pk.agg [Kd.int .u32, Kd.int .i64], Pk.agg [Kd.int .u32, Kd.int .i64], Pk.int .u32]
abbrev law21_UpdWithin_rs : List Pk := [Pk.bool]
def law21_UpdWithin_l7 (more2 : Int) (p0 : UInt32 × Int) (q1 : UInt32 × Int) (all8 : Int) (i9 : Int) (next7 : (Int × Int × Unit) → Prop) (K : Bool → Prop) : Prop :=
 IfB (decide ((i9 : Int) < 32))
 (next7 ((IntKind.wrap .u64 (2 * all8)), (IntKind.wrap .i64 (i9 + 1)), ()))
 ((all8 : Int) ≠ 0 ∧
 (WfPs upd_Within_ps ((((ofI .u32 (p0.1.toNat : Int)), p0.2) : UInt32 × Int), (((ofI .u32 (q1.1.toNat : Int)), q1.2) : UInt32 × Int), ()) →
 upd_Within_q (((ofI .u32 (p0.1.toNat : Int)), p0.2) : UInt32 × Int) (((ofI .u32 (q1.1.toNat : Int)), q1.2) : UInt32 × Int) (fun x46 =>
 WfPs upd_Within_rs (x46, ()) →
 IfB x46
 ((WfPs upd_Within_ps ((((ofI .u32 (p0.1.toNat : Int)), p0.2) : UInt32 × Int), (((ofI .u32 (IntKind.wrap .u32 (IntKind.wrap .u64 (q1.1.toNat : Int)))), 32) : UInt32 × Int), ()) →
 upd_Within_q (((ofI .u32 (p0.1.toNat : Int)), p0.2) : UInt32 × Int) (((ofI .u32 (IntKind.wrap .u32 (IntKind.wrap .u64 (q1.1.toNat : Int)))), 32) : UInt32 × Int) (fun x8 =>
 WfPs upd_Within_rs (x8, ()) →
 IfB x8
 ((WfPs upd_Within_ps ((((ofI .u32 (p0.1.toNat : Int)), p0.2) : UInt32 × Int), (((ofI .u32 (IntKind.wrap .u32 (IntKind.wrap .u64 ((IntKind.wrap .u64 (q1.1.toNat : Int)) + (Int.tmod (IntKind.wrap .u64 more2) all8))))), 32) : UInt32 × Int), ()) →
 upd_Within_q (((ofI .u32 (p0.1.toNat : Int)), p0.2) : UInt32 × Int) (((ofI .u32 (IntKind.wrap .u32 (IntKind.wrap .u64 ((IntKind.wrap .u64 (q1.1.toNat : Int)) + (Int.tmod (IntKind.wrap .u64 more2) all8))))), 32) : UInt32 × Int) (fun x8_1 =>
 WfPs upd_Within_rs (x8_1, ()) →
 IfB x8_1
 ((WfPs upd_Within_ps ((((ofI .u32 (p0.1.toNat : Int)), p0.2) : UInt32 × Int), (((ofI .u32 (IntKind.wrap .u32 (IntKind.wrap .u64 ((IntKind.wrap .u64 ((IntKind.wrap .u64 (q1.1.toNat : Int)) + all8)) - 1)))), 32) : UInt32 × Int), ()) →
 upd_Within_q (((ofI .u32 (p0.1.toNat : Int)), p0.2) : UInt32 × Int) (((ofI .u32 (IntKind.wrap .u32 (IntKind.wrap .u64 ((IntKind.wrap .u64 ((IntKind.wrap .u64 (q1.1.toNat : Int)) + all8)) - 1)))), 32) : UInt32 × Int) (fun x8_2 =>
 WfPs upd_Within_rs (x8_2, ()) →
 K x8_2)))
 (K false))))
 (K false))))
 ((WfPs upd_Within_ps ((((ofI .u32 (p0.1.toNat : Int)), p0.2) : UInt32 × Int), (((ofI .u32 (IntKind.wrap .u32 (IntKind.wrap .u64 (q1.1.toNat : Int)))), 32) : UInt32 × Int), ()) →
 upd_Within_q (((ofI .u32 (p0.1.toNat : Int)), p0.2) : UInt32 × Int) (((ofI .u32 (IntKind.wrap .u32 (IntKind.wrap .u64 (q1.1.toNat : Int)))), 32) : UInt32 × Int) (fun x8_3 =>
 WfPs upd_Within_rs (x8_3, ()) →
 IfB (!x8_3)
 (K true)
 ((WfPs upd_Within_ps ((((ofI .u32 (p0.1.toNat : Int)), p0.2) : UInt32 × Int), (((ofI .u32 (IntKind.wrap .u32 (IntKind.wrap .u64 ((IntKind.wrap .u64 ((IntKind.wrap .u64 (q1.1.toNat : Int)) + all8)) - 1)))), 32) : UInt32 × Int), ()) →
 upd_Within_q (((ofI .u32 (p0.1.toNat : Int)), p0.2) : UInt32 × Int) (((ofI .u32 (IntKind.wrap .u32 (IntKind.wrap .u64 ((IntKind.wrap .u64 ((IntKind.wrap .u64 (q1.1.toNat : Int)) + all8)) - 1)))), 32) : UInt32 × Int) (fun x8_4 =>
 WfPs upd_Within_rs (x8_4, ()) →
 K (!x8_4))))))))))
def law21_UpdWithin_j0 (more2 : Int) (p0 : UInt32 × Int) (q1 : UInt32 × Int) (j5 : Bool) (K : Bool → Prop) : Prop :=
 IfB j5
 ((WfPs upd_Within_ps ((((ofI .u32 (p0.1.toNat : Int)), p0.2) : UInt32 × Int), (((ofI .u32 (q1.1.toNat : Int)), q1.2) : UInt32 × Int), ()) →
 upd_Within_q (((ofI .u32 (p0.1.toNat : Int)), p0.2) : UInt32 × Int) (((ofI .u32 (q1.1.toNat : Int)), q1.2) : UInt32 × Int) (fun x24 =>
 WfPs upd_Within_rs (x24, ()) →
 K (!x24))))
 (LoopJ (Int × Int × Unit) ((1 : Int), q1.2, ()) fun y next =>
 WfY pl_law21_UpdWithin_7.kinds y →
 law21_UpdWithin_l7 more2 p0 q1 y.1 y.2.1 next K)
def law21_UpdWithin_q (p0 : UInt32 × Int) (q1 : UInt32 × Int) (more2 : Int) (K : Bool → Prop) : Prop :=
 (WfPs law21_works_ps (()) →
 law21_works_q  (fun x12 =>
 WfPs law21_works_rs (x12, ()) →
 IfB (!x12)
 (K false)
 ((WfPs upd_Right_ps ((((ofI .u32 (p0.1.toNat : Int)), p0.2) : UInt32 × Int), ()) →
 upd_Right_q (((ofI .u32 (p0.1.toNat : Int)), p0.2) : UInt32 × Int) (fun x15 =>
 WfPs upd_Right_rs (x15, ()) →
 IfB (!x15)
 (law21_UpdWithin_j0 more2 p0 q1 true K)
 ((WfPs upd_Right_ps ((((ofI .u32 (q1.1.toNat : Int)), q1.2) : UInt32 × Int), ()) →
 upd_Right_q (((ofI .u32 (q1.1.toNat : Int)), q1.2) : UInt32 × Int) (fun x19 =>
 WfPs upd_Right_rs (x19, ()) →
 law21_UpdWithin_j0 more2 p0 q1 (!x19) K))))))))
noncomputable def tab_law21_UpdWithin : Tab := ⟨[(f_law21_works, ct_law21_works), (f_upd_Right, ct_upd_Right), (f_upd_Within, ct_upd_Within), (f_law21_UpdWithin_1, ct_law21_UpdWithin_1)], []⟩
abbrev law21_UpdWithin_L (x : PkTs law21_UpdWithin_ps) (K : PkTs law21_UpdWithin_rs → Prop) : Prop := law21_UpdWithin_q x.1 x.2.1 x.2.2.1 (fun r0 => K (r0, ()))
theorem law21_UpdWithin_eq : law21_UpdWithin_L = fun x K => PCode Tryd.prog tab_law21_UpdWithin plan_law21_UpdWithin (bodyOf Tryd.f4) (parS law21_UpdWithin_ps x) (PRet Tryd.prog Tryd.f4.results.toList fun a st => outP law21_UpdWithin_rs st a K) := by kernel_rfl
theorem law21_UpdWithin_fq : FnQ Tryd.prog f_law21_UpdWithin law21_UpdWithin_ps law21_UpdWithin_rs law21_UpdWithin_L := (fnQ_of k_law21_UpdWithin (tab := tab_law21_UpdWithin) ⟨⟨ct_law21_works_ok, ct_upd_Right_ok, ct_upd_Within_ok, ct_law21_UpdWithin_1_ok, trivial⟩, trivial⟩ rfl).of_eq law21_UpdWithin_eq
end Go.Proofs.YtboagabgpcghcaaDoor
