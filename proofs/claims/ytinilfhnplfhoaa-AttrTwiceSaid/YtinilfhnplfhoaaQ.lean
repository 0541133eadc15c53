/-
  EACH FUNCTION OVER PLAIN DATA: printed by a program of ours over this translation.
-/
import Derived.Test.YtinilfhnplfhoaaNum
import Derived.Test.YtinilfhnplfhoaaIts
import Derived.Test.YtinilfhnplfhoaaItChunk
set_option linter.all false
set_option maxRecDepth 100000
set_option maxHeartbeats 4000000
namespace Go.Proofs.Ytinilfhnplfhoaa
open Go.Sh
abbrev Ty1 := Int × List (Bool × List UInt32) × UInt32 × Bool × UInt32 × Bool × UInt32 × Bool × Bool × UInt32 × UInt32 × List UInt32 × List (Int × List UInt8)
abbrev ks_bool_lst_int_u32 : List Kd := [Kd.bool, Kd.lst [Kd.int .u32]]
abbrev ks_int_i64_lst_int_u8 : List Kd := [Kd.int .i64, Kd.lst [Kd.int .u8]]
abbrev ks_int_u32 : List Kd := [Kd.int .u32]
abbrev ks_lst_int_u8 : List Kd := [Kd.lst [Kd.int .u8]]
abbrev ks_int_u8 : List Kd := [Kd.int .u8]
abbrev ks_lst_int_u32 : List Kd := [Kd.lst [Kd.int .u32]]
def pl_slices_Indexasl_uint32_uint32_2 : PLoop := ⟨[(8, PK.int .i64)], [0, 1, 7], []⟩
def plan_slices_Indexasl_uint32_uint32 : PPlan := ⟨[], [(2, pl_slices_Indexasl_uint32_uint32_2)], [], [], [], []⟩
theorem k_slices_Indexasl_uint32_uint32 : Known Try.prog f_slices_Indexasl_uint32_uint32 Try.f82 plan_slices_Indexasl_uint32_uint32.plan (bodyOf Try.f82) := by refine ⟨Try.func82, ?_, ?_, ?_, ?_, ?_⟩ <;> kernel_rfl
abbrev slices_Indexasl_uint32_uint32_ps : List Pk := [Pk.lst [Kd.int .u32], Pk.int .u32]
abbrev slices_Indexasl_uint32_uint32_rs : List Pk := [Pk.int .i64]
def slices_Indexasl_uint32_uint32_l2 (s0 : List UInt32) (v1 : Int) (x8 : Int) (next2 : (Int × Unit) -> Prop) (K : Int -> Prop) : Prop :=
 IfB (decide ((x8 : Int) < (s0.length : Int)))
 ((0 : Int) <= x8 ∧ AtN s0 x8.toNat fun x14 =>
 WfT ks_int_u32 x14 →
 IfB ((v1 : Int) == (x14.toNat : Int))
 (K x8)
 (next2 ((IntKind.wrap .i64 (x8 + 1)), ())))
 (K (-1))
def slices_Indexasl_uint32_uint32_q (s0 : List UInt32) (v1 : Int) (K : Int -> Prop) : Prop :=
 LoopJ (Int × Unit) ((0 : Int), ()) fun y next =>
 WfY pl_slices_Indexasl_uint32_uint32_2.kinds y →
 slices_Indexasl_uint32_uint32_l2 s0 v1 y.1 next K
noncomputable def tab_slices_Indexasl_uint32_uint32 : Tab := ⟨[], []⟩
abbrev slices_Indexasl_uint32_uint32_L (x : PkTs slices_Indexasl_uint32_uint32_ps) (K : PkTs slices_Indexasl_uint32_uint32_rs -> Prop) : Prop := slices_Indexasl_uint32_uint32_q x.1 x.2.1 (fun r0 => K (r0, ()))
theorem slices_Indexasl_uint32_uint32_eq : slices_Indexasl_uint32_uint32_L = fun x K => PCode Try.prog tab_slices_Indexasl_uint32_uint32 plan_slices_Indexasl_uint32_uint32 (bodyOf Try.f82) (parS slices_Indexasl_uint32_uint32_ps x) (PRet Try.prog Try.f82.results.toList fun a st => outP slices_Indexasl_uint32_uint32_rs st a K) := by kernel_rfl
theorem slices_Indexasl_uint32_uint32_fq : FnQ Try.prog f_slices_Indexasl_uint32_uint32 slices_Indexasl_uint32_uint32_ps slices_Indexasl_uint32_uint32_rs slices_Indexasl_uint32_uint32_L := (fnQ_of k_slices_Indexasl_uint32_uint32 (tab := tab_slices_Indexasl_uint32_uint32) ⟨trivial, trivial⟩ rfl).of_eq slices_Indexasl_uint32_uint32_eq
noncomputable def ct_slices_Indexasl_uint32_uint32 : Ct := ctRd slices_Indexasl_uint32_uint32_ps slices_Indexasl_uint32_uint32_rs slices_Indexasl_uint32_uint32_L
theorem ct_slices_Indexasl_uint32_uint32_ok : SoundCt Try.prog f_slices_Indexasl_uint32_uint32 ct_slices_Indexasl_uint32_uint32 := ctRd_sound slices_Indexasl_uint32_uint32_fq
def plan_slices_Containsasl_uint32_uint32 : PPlan := ⟨[], [], [], [], [], []⟩
theorem k_slices_Containsasl_uint32_uint32 : Known Try.prog f_slices_Containsasl_uint32_uint32 Try.f71 plan_slices_Containsasl_uint32_uint32.plan (bodyOf Try.f71) := by refine ⟨Try.func71, ?_, ?_, ?_, ?_, ?_⟩ <;> kernel_rfl
abbrev slices_Containsasl_uint32_uint32_ps : List Pk := [Pk.lst [Kd.int .u32], Pk.int .u32]
abbrev slices_Containsasl_uint32_uint32_rs : List Pk := [Pk.bool]
def slices_Containsasl_uint32_uint32_q (s0 : List UInt32) (v1 : Int) (K : Bool -> Prop) : Prop :=
 (WfPs slices_Indexasl_uint32_uint32_ps (s0, v1, ()) →
 slices_Indexasl_uint32_uint32_q s0 v1 (fun x7 =>
 WfPs slices_Indexasl_uint32_uint32_rs (x7, ()) →
 K (decide ((x7 : Int) ≥ 0))))
noncomputable def tab_slices_Containsasl_uint32_uint32 : Tab := ⟨[(f_slices_Indexasl_uint32_uint32, ct_slices_Indexasl_uint32_uint32)], []⟩
abbrev slices_Containsasl_uint32_uint32_L (x : PkTs slices_Containsasl_uint32_uint32_ps) (K : PkTs slices_Containsasl_uint32_uint32_rs -> Prop) : Prop := slices_Containsasl_uint32_uint32_q x.1 x.2.1 (fun r0 => K (r0, ()))
theorem slices_Containsasl_uint32_uint32_eq : slices_Containsasl_uint32_uint32_L = fun x K => PCode Try.prog tab_slices_Containsasl_uint32_uint32 plan_slices_Containsasl_uint32_uint32 (bodyOf Try.f71) (parS slices_Containsasl_uint32_uint32_ps x) (PRet Try.prog Try.f71.results.toList fun a st => outP slices_Containsasl_uint32_uint32_rs st a K) := by kernel_rfl
theorem slices_Containsasl_uint32_uint32_fq : FnQ Try.prog f_slices_Containsasl_uint32_uint32 slices_Containsasl_uint32_uint32_ps slices_Containsasl_uint32_uint32_rs slices_Containsasl_uint32_uint32_L := (fnQ_of k_slices_Containsasl_uint32_uint32 (tab := tab_slices_Containsasl_uint32_uint32) ⟨⟨ct_slices_Indexasl_uint32_uint32_ok, trivial⟩, trivial⟩ rfl).of_eq slices_Containsasl_uint32_uint32_eq
noncomputable def ct_slices_Containsasl_uint32_uint32 : Ct := ctRd slices_Containsasl_uint32_uint32_ps slices_Containsasl_uint32_uint32_rs slices_Containsasl_uint32_uint32_L
theorem ct_slices_Containsasl_uint32_uint32_ok : SoundCt Try.prog f_slices_Containsasl_uint32_uint32 ct_slices_Containsasl_uint32_uint32 := ctRd_sound slices_Containsasl_uint32_uint32_fq
def plan_path_part : PPlan := ⟨[], [], [], [], [], []⟩
theorem k_path_part : Known Try.prog f_path_part Try.f59 plan_path_part.plan (bodyOf Try.f59) := by refine ⟨Try.func59, ?_, ?_, ?_, ?_, ?_⟩ <;> kernel_rfl
abbrev path_part_ps : List Pk := [Pk.agg [Kd.bool, Kd.lst [Kd.int .u32]]]
abbrev path_part_rs : List Pk := [Pk.bool]
def path_part_q (s0 : Bool × List UInt32) (K : Bool -> Prop) : Prop :=
 IfB (decide (((s0.2.length : Int) : Int) > 0))
 (IfB (decide (((s0.2.length : Int) : Int) <= 255))
 ((WfPs slices_Containsasl_uint32_uint32_ps (s0.2, (0 : Int), ()) →
 slices_Containsasl_uint32_uint32_q s0.2 (0 : Int) (fun x16 =>
 WfPs slices_Containsasl_uint32_uint32_rs (x16, ()) →
 K (!x16))))
 (K false))
 (K false)
noncomputable def tab_path_part : Tab := ⟨[(f_slices_Containsasl_uint32_uint32, ct_slices_Containsasl_uint32_uint32)], []⟩
abbrev path_part_L (x : PkTs path_part_ps) (K : PkTs path_part_rs -> Prop) : Prop := path_part_q x.1 (fun r0 => K (r0, ()))
theorem path_part_eq : path_part_L = fun x K => PCode Try.prog tab_path_part plan_path_part (bodyOf Try.f59) (parS path_part_ps x) (PRet Try.prog Try.f59.results.toList fun a st => outP path_part_rs st a K) := by kernel_rfl
theorem path_part_fq : FnQ Try.prog f_path_part path_part_ps path_part_rs path_part_L := (fnQ_of k_path_part (tab := tab_path_part) ⟨⟨ct_slices_Containsasl_uint32_uint32_ok, trivial⟩, trivial⟩ rfl).of_eq path_part_eq
noncomputable def ct_path_part : Ct := ctRd path_part_ps path_part_rs path_part_L
theorem ct_path_part_ok : SoundCt Try.prog f_path_part ct_path_part := ctRd_sound path_part_fq
def pl_path_count_3 : PLoop := ⟨[(3, PK.int .i64), (8, PK.int .i64)], [6, 7], []⟩
def plan_path_count : PPlan := ⟨[], [(3, pl_path_count_3)], [], [], [], []⟩
theorem k_path_count : Known Try.prog f_path_count Try.f60 plan_path_count.plan (bodyOf Try.f60) := by refine ⟨Try.func60, ?_, ?_, ?_, ?_, ?_⟩ <;> kernel_rfl
abbrev path_count_ps : List Pk := [Pk.lst [Kd.bool, Kd.lst [Kd.int .u32]]]
abbrev path_count_rs : List Pk := [Pk.int .i64]
def path_count_l3 (p0 : List (Bool × List UInt32)) (n3 : Int) (x8 : Int) (next3 : (Int × Int × Unit) -> Prop) (K : Int -> Prop) : Prop :=
 IfB (decide ((x8 : Int) < (p0.length : Int)))
 ((0 : Int) <= x8 ∧ AtN p0 x8.toNat fun x10 =>
 WfT ks_bool_lst_int_u32 x10 →
 next3 ((IntKind.wrap .i64 (n3 + (x10.2.length : Int))), (IntKind.wrap .i64 (x8 + 1)), ()))
 (K n3)
def path_count_q (p0 : List (Bool × List UInt32)) (K : Int -> Prop) : Prop :=
 LoopJ (Int × Int × Unit) ((0 : Int), (0 : Int), ()) fun y next =>
 WfY pl_path_count_3.kinds y →
 path_count_l3 p0 y.1 y.2.1 next K
noncomputable def tab_path_count : Tab := ⟨[], []⟩
abbrev path_count_L (x : PkTs path_count_ps) (K : PkTs path_count_rs -> Prop) : Prop := path_count_q x.1 (fun r0 => K (r0, ()))
theorem path_count_eq : path_count_L = fun x K => PCode Try.prog tab_path_count plan_path_count (bodyOf Try.f60) (parS path_count_ps x) (PRet Try.prog Try.f60.results.toList fun a st => outP path_count_rs st a K) := by kernel_rfl
theorem path_count_fq : FnQ Try.prog f_path_count path_count_ps path_count_rs path_count_L := (fnQ_of k_path_count (tab := tab_path_count) ⟨trivial, trivial⟩ rfl).of_eq path_count_eq
noncomputable def ct_path_count : Ct := ctRd path_count_ps path_count_rs path_count_L
theorem ct_path_count_ok : SoundCt Try.prog f_path_count ct_path_count := ctRd_sound path_count_fq
def pl_path_Check_2 : PLoop := ⟨[(7, PK.int .i64)], [0, 5, 6], []⟩
def plan_path_Check : PPlan := ⟨[], [(2, pl_path_Check_2)], [], [], [], []⟩
theorem k_path_Check : Known Try.prog f_path_Check Try.f33 plan_path_Check.plan (bodyOf Try.f33) := by refine ⟨Try.func33, ?_, ?_, ?_, ?_, ?_⟩ <;> kernel_rfl
abbrev path_Check_ps : List Pk := [Pk.lst [Kd.bool, Kd.lst [Kd.int .u32]]]
abbrev path_Check_rs : List Pk := [Pk.int .i64]
def path_Check_l2 (p0 : List (Bool × List UInt32)) (x7 : Int) (next2 : (Int × Unit) -> Prop) (K : Int -> Prop) : Prop :=
 IfB (decide ((x7 : Int) < (p0.length : Int)))
 ((0 : Int) <= x7 ∧ AtN p0 x7.toNat fun x9 =>
 WfT ks_bool_lst_int_u32 x9 →
 (WfPs path_part_ps (x9, ()) →
 path_part_q x9 (fun x12 =>
 WfPs path_part_rs (x12, ()) →
 IfB (!x12)
 (K 2)
 (next2 ((IntKind.wrap .i64 (x7 + 1)), ())))))
 ((WfPs path_count_ps (p0, ()) →
 path_count_q p0 (fun x16 =>
 WfPs path_count_rs (x16, ()) →
 IfB (decide ((x16 : Int) > 64))
 (K 2)
 (K 0))))
def path_Check_q (p0 : List (Bool × List UInt32)) (K : Int -> Prop) : Prop :=
 LoopJ (Int × Unit) ((0 : Int), ()) fun y next =>
 WfY pl_path_Check_2.kinds y →
 path_Check_l2 p0 y.1 next K
noncomputable def tab_path_Check : Tab := ⟨[(f_path_part, ct_path_part), (f_path_count, ct_path_count)], []⟩
abbrev path_Check_L (x : PkTs path_Check_ps) (K : PkTs path_Check_rs -> Prop) : Prop := path_Check_q x.1 (fun r0 => K (r0, ()))
theorem path_Check_eq : path_Check_L = fun x K => PCode Try.prog tab_path_Check plan_path_Check (bodyOf Try.f33) (parS path_Check_ps x) (PRet Try.prog Try.f33.results.toList fun a st => outP path_Check_rs st a K) := by kernel_rfl
theorem path_Check_fq : FnQ Try.prog f_path_Check path_Check_ps path_Check_rs path_Check_L := (fnQ_of k_path_Check (tab := tab_path_Check) ⟨⟨ct_path_part_ok, ct_path_count_ok, trivial⟩, trivial⟩ rfl).of_eq path_Check_eq
noncomputable def ct_path_Check : Ct := ctRd path_Check_ps path_Check_rs path_Check_L
theorem ct_path_Check_ok : SoundCt Try.prog f_path_Check ct_path_Check := ctRd_sound path_Check_fq
def plan_attr_hop : PPlan := ⟨[], [], [], [], [], []⟩
theorem k_attr_hop : Known Try.prog f_attr_hop Try.f34 plan_attr_hop.plan (bodyOf Try.f34) := by refine ⟨Try.func34, ?_, ?_, ?_, ?_, ?_⟩ <;> kernel_rfl
abbrev attr_hop_ps : List Pk := [Pk.int .u32]
abbrev attr_hop_rs : List Pk := [Pk.bool]
def attr_hop_q (a0 : Int) (K : Bool -> Prop) : Prop :=
 IfB ((a0 : Int) != 0)
 (K (decide ((a0 : Int) < 3758096384)))
 (K false)
noncomputable def tab_attr_hop : Tab := ⟨[], []⟩
abbrev attr_hop_L (x : PkTs attr_hop_ps) (K : PkTs attr_hop_rs -> Prop) : Prop := attr_hop_q x.1 (fun r0 => K (r0, ()))
theorem attr_hop_eq : attr_hop_L = fun x K => PCode Try.prog tab_attr_hop plan_attr_hop (bodyOf Try.f34) (parS attr_hop_ps x) (PRet Try.prog Try.f34.results.toList fun a st => outP attr_hop_rs st a K) := by kernel_rfl
theorem attr_hop_fq : FnQ Try.prog f_attr_hop attr_hop_ps attr_hop_rs attr_hop_L := (fnQ_of k_attr_hop (tab := tab_attr_hop) ⟨trivial, trivial⟩ rfl).of_eq attr_hop_eq
noncomputable def ct_attr_hop : Ct := ctRd attr_hop_ps attr_hop_rs attr_hop_L
theorem ct_attr_hop_ok : SoundCt Try.prog f_attr_hop ct_attr_hop := ctRd_sound attr_hop_fq
def plan_attr_known : PPlan := ⟨[], [], [], [], [], []⟩
theorem k_attr_known : Known Try.prog f_attr_known Try.f52 plan_attr_known.plan (bodyOf Try.f52) := by refine ⟨Try.func52, ?_, ?_, ?_, ?_, ?_⟩ <;> kernel_rfl
abbrev attr_known_ps : List Pk := [Pk.int .i64]
abbrev attr_known_rs : List Pk := [Pk.int .u8, Pk.bool]
def attr_known_j2 (j0 : Bool) (K : Int -> Bool -> Prop) : Prop :=
 IfB j0
 (K 192 true)
 (K 0 false)
def attr_known_j1 (kind0 : Int) (K : Int -> Bool -> Prop) : Prop :=
 IfB ((kind0 : Int) == 4)
 (K 128 true)
 (IfB ((kind0 : Int) == 7)
 (attr_known_j2 ((kind0 : Int) == 7) K)
 (IfB ((kind0 : Int) == 8)
 (attr_known_j2 ((kind0 : Int) == 8) K)
 (IfB ((kind0 : Int) == 17)
 (attr_known_j2 ((kind0 : Int) == 17) K)
 (attr_known_j2 ((kind0 : Int) == 18) K))))
def attr_known_j0 (kind0 : Int) (j1 : Bool) (K : Int -> Bool -> Prop) : Prop :=
 IfB j1
 (K 64 true)
 (attr_known_j1 kind0 K)
def attr_known_q (kind0 : Int) (K : Int -> Bool -> Prop) : Prop :=
 IfB ((kind0 : Int) == 1)
 (attr_known_j0 kind0 ((kind0 : Int) == 1) K)
 (IfB ((kind0 : Int) == 2)
 (attr_known_j0 kind0 ((kind0 : Int) == 2) K)
 (IfB ((kind0 : Int) == 3)
 (attr_known_j0 kind0 ((kind0 : Int) == 3) K)
 (IfB ((kind0 : Int) == 5)
 (attr_known_j0 kind0 ((kind0 : Int) == 5) K)
 (attr_known_j0 kind0 ((kind0 : Int) == 6) K))))
noncomputable def tab_attr_known : Tab := ⟨[], []⟩
abbrev attr_known_L (x : PkTs attr_known_ps) (K : PkTs attr_known_rs -> Prop) : Prop := attr_known_q x.1 (fun r0 r1 => K (r0, r1, ()))
theorem attr_known_eq : attr_known_L = fun x K => PCode Try.prog tab_attr_known plan_attr_known (bodyOf Try.f52) (parS attr_known_ps x) (PRet Try.prog Try.f52.results.toList fun a st => outP attr_known_rs st a K) := by kernel_rfl
theorem attr_known_fq : FnQ Try.prog f_attr_known attr_known_ps attr_known_rs attr_known_L := (fnQ_of k_attr_known (tab := tab_attr_known) ⟨trivial, trivial⟩ rfl).of_eq attr_known_eq
noncomputable def ct_attr_known : Ct := ctRd attr_known_ps attr_known_rs attr_known_L
theorem ct_attr_known_ok : SoundCt Try.prog f_attr_known ct_attr_known := ctRd_sound attr_known_fq
def pl_attr_others_3 : PLoop := ⟨[(3, PK.int .i64), (10, PK.int .i64)], [0, 8, 9], []⟩
def plan_attr_others : PPlan := ⟨[], [(3, pl_attr_others_3)], [], [], [], []⟩
theorem k_attr_others : Known Try.prog f_attr_others Try.f35 plan_attr_others.plan (bodyOf Try.f35) := by refine ⟨Try.func35, ?_, ?_, ?_, ?_, ?_⟩ <;> kernel_rfl
abbrev attr_others_ps : List Pk := [Pk.lst [Kd.int .i64, Kd.lst [Kd.int .u8]]]
abbrev attr_others_rs : List Pk := [Pk.bool]
def attr_others_j0 (l0 : List (Int × List UInt8)) (x12 : Int × List UInt8) (x10 : Int) (next3 : (Int × Int × Unit) -> Prop) (j6 : Bool) (K : Bool -> Prop) : Prop :=
 IfB j6
 (K false)
 (next3 (x12.1, (IntKind.wrap .i64 (x10 + 1)), ()))
def attr_others_l3 (l0 : List (Int × List UInt8)) (last3 : Int) (x10 : Int) (next3 : (Int × Int × Unit) -> Prop) (K : Bool -> Prop) : Prop :=
 IfB (decide ((x10 : Int) < (l0.length : Int)))
 ((0 : Int) <= x10 ∧ AtN l0 x10.toNat fun x12 =>
 WfT ks_int_i64_lst_int_u8 x12 →
 (WfPs attr_known_ps (x12.1, ()) →
 attr_known_q x12.1 (fun x17r0 x17r1 =>
 WfPs attr_known_rs (x17r0, x17r1, ()) →
 IfB x17r1
 (attr_others_j0 l0 x12 x10 next3 true K)
 (IfB (decide ((x12.1 : Int) <= last3))
 (attr_others_j0 l0 x12 x10 next3 true K)
 (IfB (decide ((x12.1 : Int) > 255))
 (attr_others_j0 l0 x12 x10 next3 true K)
 (attr_others_j0 l0 x12 x10 next3 (decide (((x12.2.length : Int) : Int) > 255)) K))))))
 (K (decide (((l0.length : Int) : Int) <= 8)))
def attr_others_q (l0 : List (Int × List UInt8)) (K : Bool -> Prop) : Prop :=
 LoopJ (Int × Int × Unit) (((-1) : Int), (0 : Int), ()) fun y next =>
 WfY pl_attr_others_3.kinds y →
 attr_others_l3 l0 y.1 y.2.1 next K
noncomputable def tab_attr_others : Tab := ⟨[(f_attr_known, ct_attr_known)], []⟩
abbrev attr_others_L (x : PkTs attr_others_ps) (K : PkTs attr_others_rs -> Prop) : Prop := attr_others_q x.1 (fun r0 => K (r0, ()))
theorem attr_others_eq : attr_others_L = fun x K => PCode Try.prog tab_attr_others plan_attr_others (bodyOf Try.f35) (parS attr_others_ps x) (PRet Try.prog Try.f35.results.toList fun a st => outP attr_others_rs st a K) := by kernel_rfl
theorem attr_others_fq : FnQ Try.prog f_attr_others attr_others_ps attr_others_rs attr_others_L := (fnQ_of k_attr_others (tab := tab_attr_others) ⟨⟨ct_attr_known_ok, trivial⟩, trivial⟩ rfl).of_eq attr_others_eq
noncomputable def ct_attr_others : Ct := ctRd attr_others_ps attr_others_rs attr_others_L
theorem ct_attr_others_ok : SoundCt Try.prog f_attr_others ct_attr_others := ctRd_sound attr_others_fq
def plan_attr_Check : PPlan := ⟨[], [], [], [], [], []⟩
theorem k_attr_Check : Known Try.prog f_attr_Check Try.f11 plan_attr_Check.plan (bodyOf Try.f11) := by refine ⟨Try.func11, ?_, ?_, ?_, ?_, ?_⟩ <;> kernel_rfl
abbrev attr_Check_ps : List Pk := [Pk.agg [Kd.int .i64, Kd.lst [Kd.bool, Kd.lst [Kd.int .u32]], Kd.int .u32, Kd.bool, Kd.int .u32, Kd.bool, Kd.int .u32, Kd.bool, Kd.bool, Kd.int .u32, Kd.int .u32, Kd.lst [Kd.int .u32], Kd.lst [Kd.int .i64, Kd.lst [Kd.int .u8]]]]
abbrev attr_Check_rs : List Pk := [Pk.int .i64]
def attr_Check_j2 (j0 : Bool) (K : Int -> Prop) : Prop :=
 IfB j0
 (K 2)
 (K 0)
def attr_Check_j1 (a0 : Ty1) (j13_1 : Bool) (K : Int -> Prop) : Prop :=
 IfB j13_1
 (K 2)
 (IfB (decide (((a0.2.2.2.2.2.2.2.2.2.2.2.1.length : Int) : Int) > 32))
 (attr_Check_j2 true K)
 ((WfPs attr_others_ps (a0.2.2.2.2.2.2.2.2.2.2.2.2, ()) →
 attr_others_q a0.2.2.2.2.2.2.2.2.2.2.2.2 (fun x40 =>
 WfPs attr_others_rs (x40, ()) →
 attr_Check_j2 (!x40) K))))
def attr_Check_j0 (a0 : Ty1) (j13 : Bool) (K : Int -> Prop) : Prop :=
 IfB j13
 (K 2)
 ((WfPs attr_hop_ps ((a0.2.2.1.toNat : Int), ()) →
 attr_hop_q (a0.2.2.1.toNat : Int) (fun x21 =>
 WfPs attr_hop_rs (x21, ()) →
 IfB (!x21)
 (attr_Check_j1 a0 true K)
 (IfB a0.2.2.2.2.2.2.2.2.1
 (attr_Check_j1 a0 (((a0.2.2.2.2.2.2.2.2.2.1.toNat : Int) : Int) == 0) K)
 (attr_Check_j1 a0 false K)))))
def attr_Check_q (a0 : Ty1) (K : Int -> Prop) : Prop :=
 IfB (decide ((a0.1 : Int) < 0))
 (attr_Check_j0 a0 true K)
 (IfB (decide ((a0.1 : Int) > 2))
 (attr_Check_j0 a0 true K)
 ((WfPs path_Check_ps (a0.2.1, ()) →
 path_Check_q a0.2.1 (fun x15 =>
 WfPs path_Check_rs (x15, ()) →
 attr_Check_j0 a0 ((x15 : Int) != 0) K))))
noncomputable def tab_attr_Check : Tab := ⟨[(f_path_Check, ct_path_Check), (f_attr_hop, ct_attr_hop), (f_attr_others, ct_attr_others)], []⟩
abbrev attr_Check_L (x : PkTs attr_Check_ps) (K : PkTs attr_Check_rs -> Prop) : Prop := attr_Check_q x.1 (fun r0 => K (r0, ()))
theorem attr_Check_eq : attr_Check_L = fun x K => PCode Try.prog tab_attr_Check plan_attr_Check (bodyOf Try.f11) (parS attr_Check_ps x) (PRet Try.prog Try.f11.results.toList fun a st => outP attr_Check_rs st a K) := by kernel_rfl
theorem attr_Check_fq : FnQ Try.prog f_attr_Check attr_Check_ps attr_Check_rs attr_Check_L := (fnQ_of k_attr_Check (tab := tab_attr_Check) ⟨⟨ct_path_Check_ok, ct_attr_hop_ok, ct_attr_others_ok, trivial⟩, trivial⟩ rfl).of_eq attr_Check_eq
noncomputable def ct_attr_Check : Ct := ctRd attr_Check_ps attr_Check_rs attr_Check_L
theorem ct_attr_Check_ok : SoundCt Try.prog f_attr_Check ct_attr_Check := ctRd_sound attr_Check_fq
def plan_path_kind : PPlan := ⟨[], [], [], [], [], []⟩
theorem k_path_kind : Known Try.prog f_path_kind Try.f51 plan_path_kind.plan (bodyOf Try.f51) := by refine ⟨Try.func51, ?_, ?_, ?_, ?_, ?_⟩ <;> kernel_rfl
abbrev path_kind_ps : List Pk := [Pk.agg [Kd.bool, Kd.lst [Kd.int .u32]]]
abbrev path_kind_rs : List Pk := [Pk.int .u8]
def path_kind_q (s0 : Bool × List UInt32) (K : Int -> Prop) : Prop :=
 IfB s0.1
 (K 1)
 (K 2)
noncomputable def tab_path_kind : Tab := ⟨[], []⟩
abbrev path_kind_L (x : PkTs path_kind_ps) (K : PkTs path_kind_rs -> Prop) : Prop := path_kind_q x.1 (fun r0 => K (r0, ()))
theorem path_kind_eq : path_kind_L = fun x K => PCode Try.prog tab_path_kind plan_path_kind (bodyOf Try.f51) (parS path_kind_ps x) (PRet Try.prog Try.f51.results.toList fun a st => outP path_kind_rs st a K) := by kernel_rfl
theorem path_kind_fq : FnQ Try.prog f_path_kind path_kind_ps path_kind_rs path_kind_L := (fnQ_of k_path_kind (tab := tab_path_kind) ⟨trivial, trivial⟩ rfl).of_eq path_kind_eq
noncomputable def ct_path_kind : Ct := ctRd path_kind_ps path_kind_rs path_kind_L
theorem ct_path_kind_ok : SoundCt Try.prog f_path_kind ct_path_kind := ctRd_sound path_kind_fq
def pl_path_Put_6 : PLoop := ⟨[(7, PK.row T_uint8 [Kd.int .u8]), (19, PK.int .i64)], [1, 17, 18], []⟩
def pl_path_Put_10 : PLoop := ⟨[(7, PK.row T_uint8 [Kd.int .u8]), (35, PK.int .i64)], [1, 17, 18, 19, 33, 34], []⟩
def plan_path_Put : PPlan := ⟨[(8, [0, 1, 3, 4, 5, 6, 2, 7, 8, 9], [27])], [(6, pl_path_Put_6), (10, pl_path_Put_10)], [], [], [], []⟩
theorem k_path_Put : Known Try.prog f_path_Put Try.f23 plan_path_Put.plan (bodyOf Try.f23) := by refine ⟨Try.func23, ?_, ?_, ?_, ?_, ?_⟩ <;> kernel_rfl
abbrev path_Put_ps : List Pk := [Pk.lst [Kd.bool, Kd.lst [Kd.int .u32]], Pk.bool]
abbrev path_Put_rs : List Pk := [Pk.own T_uint8 [Kd.int .u8], Pk.int .i64]
def path_Put_j1 (four1 : Bool) (j1 : List UInt8) (j2 : Int) (p0 : List (Bool × List UInt32)) (x19 : Int) (x21 : Bool × List UInt32) (x35 : Int) (next6 : (List UInt8 × Int × Unit) -> Prop) (next10 : (List UInt8 × Int × Unit) -> Prop) (K : List UInt8 -> Int -> Prop) : Prop :=
 next10 ((j1 ++ ([(ofI .u8 (IntKind.wrap .u8 (Int.fdiv j2 256))), (ofI .u8 (IntKind.wrap .u8 j2))] : List UInt8)), (IntKind.wrap .i64 (x35 + 1)), ())
def path_Put_j0 (four1 : Bool) (p0 : List (Bool × List UInt32)) (x19 : Int) (x21 : Bool × List UInt32) (x35 : Int) (next6 : (List UInt8 × Int × Unit) -> Prop) (next10 : (List UInt8 × Int × Unit) -> Prop) (j1 : List UInt8) (j2 : Int) (K : List UInt8 -> Int -> Prop) : Prop :=
 (0 : Int) <= 8 ∧
 j1.length + ([(ofI .u8 (IntKind.wrap .u8 (Int.fdiv j2 256))), (ofI .u8 (IntKind.wrap .u8 j2))] : List UInt8).length <= 140737488355232 ∧
 path_Put_j1 four1 j1 j2 p0 x19 x21 x35 next6 next10 K
def path_Put_l10 (four1 : Bool) (p0 : List (Bool × List UInt32)) (x19 : Int) (x21 : Bool × List UInt32) (next6 : (List UInt8 × Int × Unit) -> Prop) (b7_1 : List UInt8) (x35 : Int) (next10 : (List UInt8 × Int × Unit) -> Prop) (K : List UInt8 -> Int -> Prop) : Prop :=
 IfB (decide ((x35 : Int) < (x21.2.length : Int)))
 ((0 : Int) <= x35 ∧ AtN x21.2 x35.toNat fun x37 =>
 WfT ks_int_u32 x37 →
 IfB four1
 ((0 : Int) <= 24 ∧
 (0 : Int) <= 16 ∧
 b7_1.length + ([(ofI .u8 (IntKind.wrap .u8 (Int.fdiv (x37.toNat : Int) 16777216))), (ofI .u8 (IntKind.wrap .u8 (Int.fdiv (x37.toNat : Int) 65536)))] : List UInt8).length <= 140737488355232 ∧
 path_Put_j0 four1 p0 x19 x21 x35 next6 next10 (b7_1 ++ ([(ofI .u8 (IntKind.wrap .u8 (Int.fdiv (x37.toNat : Int) 16777216))), (ofI .u8 (IntKind.wrap .u8 (Int.fdiv (x37.toNat : Int) 65536)))] : List UInt8)) (x37.toNat : Int) K)
 (IfB (decide (((x37.toNat : Int) : Int) > 65535))
 (path_Put_j0 four1 p0 x19 x21 x35 next6 next10 b7_1 23456 K)
 (path_Put_j0 four1 p0 x19 x21 x35 next6 next10 b7_1 (x37.toNat : Int) K)))
 (next6 (b7_1, (IntKind.wrap .i64 (x19 + 1)), ()))
def path_Put_l6 (four1 : Bool) (p0 : List (Bool × List UInt32)) (b7 : List UInt8) (x19 : Int) (next6 : (List UInt8 × Int × Unit) -> Prop) (K : List UInt8 -> Int -> Prop) : Prop :=
 IfB (decide ((x19 : Int) < (p0.length : Int)))
 ((0 : Int) <= x19 ∧ AtN p0 x19.toNat fun x21 =>
 WfT ks_bool_lst_int_u32 x21 →
 (WfPs path_kind_ps (x21, ()) →
 path_kind_q x21 (fun x25 =>
 WfPs path_kind_rs (x25, ()) →
 b7.length + ([(ofI .u8 x25), (ofI .u8 (IntKind.wrap .u8 (x21.2.length : Int)))] : List UInt8).length <= 140737488355232 ∧
 LoopJ (List UInt8 × Int × Unit) ((b7 ++ ([(ofI .u8 x25), (ofI .u8 (IntKind.wrap .u8 (x21.2.length : Int)))] : List UInt8)), (0 : Int), ()) fun y next =>
 WfY pl_path_Put_10.kinds y →
 path_Put_l10 four1 p0 x19 x21 next6 y.1 y.2.1 next K)))
 (K b7 0)
def path_Put_q (p0 : List (Bool × List UInt32)) (four1 : Bool) (K : List UInt8 -> Int -> Prop) : Prop :=
 (WfPs path_Check_ps (p0, ()) →
 path_Check_q p0 (fun x13 =>
 WfPs path_Check_rs (x13, ()) →
 IfB ((x13 : Int) != 0)
 (K ([] : List UInt8) x13)
 (LoopJ (List UInt8 × Int × Unit) (([] : List UInt8), (0 : Int), ()) fun y next =>
 WfY pl_path_Put_6.kinds y →
 path_Put_l6 four1 p0 y.1 y.2.1 next K)))
noncomputable def tab_path_Put : Tab := ⟨[(f_path_Check, ct_path_Check), (f_path_kind, ct_path_kind)], []⟩
abbrev path_Put_L (x : PkTs path_Put_ps) (K : PkTs path_Put_rs -> Prop) : Prop := path_Put_q x.1 x.2.1 (fun r0 r1 => K (r0, r1, ()))
theorem path_Put_eq : path_Put_L = fun x K => PCode Try.prog tab_path_Put plan_path_Put (bodyOf Try.f23) (parS path_Put_ps x) (PRet Try.prog Try.f23.results.toList fun a st => outP path_Put_rs st a K) := by kernel_rfl
theorem path_Put_fq : FnQ Try.prog f_path_Put path_Put_ps path_Put_rs path_Put_L := (fnQ_of k_path_Put (tab := tab_path_Put) ⟨⟨ct_path_Check_ok, ct_path_kind_ok, trivial⟩, trivial⟩ rfl).of_eq path_Put_eq
noncomputable def ct_path_Put : Ct := ctVal path_Put_ps path_Put_rs path_Put_L
theorem ct_path_Put_ok : SoundCt Try.prog f_path_Put ct_path_Put := ctVal_sound path_Put_fq
def plan_slices_Growasl_byte_byte_at_nil : PPlan := ⟨[], [], [25], [], [], []⟩
theorem k_slices_Growasl_byte_byte_at_nil : Known Try.prog f_slices_Growasl_byte_byte Try.f70 plan_slices_Growasl_byte_byte_at_nil.plan (bodyOf Try.f70) := by refine ⟨Try.func70, ?_, ?_, ?_, ?_, ?_⟩ <;> kernel_rfl
abbrev slices_Growasl_byte_byte_at_nil_ps : List Pk := [Pk.nil, Pk.int .i64]
abbrev slices_Growasl_byte_byte_at_nil_rs : List Pk := [Pk.own T_uint8 [Kd.int .u8]]
def slices_Growasl_byte_byte_at_nil_q (n1 : Int) (K : List UInt8 -> Prop) : Prop :=
 IfB (decide ((n1 : Int) < 0))
 (False)
 (IfB (decide (((IntKind.wrap .i64 (n1 - (IntKind.wrap .i64 (0 - 0)))) : Int) > 0))
 ((0 : Int) <= 0 ∧ 0 <= (0 : Int) ∧
 (0 : Int) < (IntKind.wrap .i64 (n1 - (IntKind.wrap .i64 (0 - 0)))) ∧ (IntKind.wrap .i64 (n1 - (IntKind.wrap .i64 (0 - 0)))) <= 1000000000 ∧
 (0 : Int) <= 0 ∧ 0 <= ((List.replicate (IntKind.wrap .i64 (n1 - (IntKind.wrap .i64 (0 - 0)))).toNat ((ofI .u8 0) : UInt8)).length : Int) ∧
 K ((List.replicate (IntKind.wrap .i64 (n1 - (IntKind.wrap .i64 (0 - 0)))).toNat ((ofI .u8 0) : UInt8)).take 0))
 (K ([] : List UInt8)))
noncomputable def tab_slices_Growasl_byte_byte_at_nil : Tab := ⟨[], []⟩
abbrev slices_Growasl_byte_byte_at_nil_L (x : PkTs slices_Growasl_byte_byte_at_nil_ps) (K : PkTs slices_Growasl_byte_byte_at_nil_rs -> Prop) : Prop := slices_Growasl_byte_byte_at_nil_q x.2.1 (fun r0 => K (r0, ()))
theorem slices_Growasl_byte_byte_at_nil_eq : slices_Growasl_byte_byte_at_nil_L = fun x K => PCode Try.prog tab_slices_Growasl_byte_byte_at_nil plan_slices_Growasl_byte_byte_at_nil (bodyOf Try.f70) (parS slices_Growasl_byte_byte_at_nil_ps x) (PRet Try.prog Try.f70.results.toList fun a st => outP slices_Growasl_byte_byte_at_nil_rs st a K) := by kernel_rfl
theorem slices_Growasl_byte_byte_at_nil_fq : FnQ Try.prog f_slices_Growasl_byte_byte slices_Growasl_byte_byte_at_nil_ps slices_Growasl_byte_byte_at_nil_rs slices_Growasl_byte_byte_at_nil_L := (fnQ_of k_slices_Growasl_byte_byte_at_nil (tab := tab_slices_Growasl_byte_byte_at_nil) ⟨trivial, trivial⟩ rfl).of_eq slices_Growasl_byte_byte_at_nil_eq
noncomputable def ct_slices_Growasl_byte_byte_at_nil : Ct := ctVal slices_Growasl_byte_byte_at_nil_ps slices_Growasl_byte_byte_at_nil_rs slices_Growasl_byte_byte_at_nil_L
theorem ct_slices_Growasl_byte_byte_at_nil_ok : SoundCt Try.prog f_slices_Growasl_byte_byte ct_slices_Growasl_byte_byte_at_nil := ctVal_sound slices_Growasl_byte_byte_at_nil_fq
def pl_slices_Concatasl_byte_byte_3 : PLoop := ⟨[(3, PK.int .i64), (11, PK.int .i64)], [0, 9, 10], []⟩
def pl_slices_Concatasl_byte_byte_11 : PLoop := ⟨[(6, PK.row T_uint8 [Kd.int .u8]), (27, PK.int .i64)], [25, 26], []⟩
def plan_slices_Concatasl_byte_byte : PPlan := ⟨[], [(3, pl_slices_Concatasl_byte_byte_3), (11, pl_slices_Concatasl_byte_byte_11)], [], [], [], []⟩
theorem k_slices_Concatasl_byte_byte : Known Try.prog f_slices_Concatasl_byte_byte Try.f58 plan_slices_Concatasl_byte_byte.plan (bodyOf Try.f58) := by refine ⟨Try.func58, ?_, ?_, ?_, ?_, ?_⟩ <;> kernel_rfl
abbrev slices_Concatasl_byte_byte_ps : List Pk := [Pk.lst [Kd.lst [Kd.int .u8]]]
abbrev slices_Concatasl_byte_byte_rs : List Pk := [Pk.own T_uint8 [Kd.int .u8]]
def slices_Concatasl_byte_byte_l11 (slices0 : List (List UInt8)) (newslice6 : List UInt8) (x27 : Int) (next11 : (List UInt8 × Int × Unit) -> Prop) (K : List UInt8 -> Prop) : Prop :=
 IfB (decide ((x27 : Int) < (slices0.length : Int)))
 ((0 : Int) <= x27 ∧ AtN slices0 x27.toNat fun x29 =>
 WfT ks_lst_int_u8 x29 →
 newslice6.length + x29.length <= 140737488355232 ∧
 next11 ((newslice6 ++ x29), (IntKind.wrap .i64 (x27 + 1)), ()))
 (K newslice6)
def slices_Concatasl_byte_byte_l3 (slices0 : List (List UInt8)) (size3 : Int) (x11 : Int) (next3 : (Int × Int × Unit) -> Prop) (K : List UInt8 -> Prop) : Prop :=
 IfB (decide ((x11 : Int) < (slices0.length : Int)))
 ((0 : Int) <= x11 ∧ AtN slices0 x11.toNat fun x13 =>
 WfT ks_lst_int_u8 x13 →
 IfB (decide (((IntKind.wrap .i64 (size3 + (x13.length : Int))) : Int) < 0))
 (False)
 (next3 ((IntKind.wrap .i64 (size3 + (x13.length : Int))), (IntKind.wrap .i64 (x11 + 1)), ())))
 ((WfPs slices_Growasl_byte_byte_at_nil_ps ((), size3, ()) →
 slices_Growasl_byte_byte_at_nil_q size3 (fun x24 =>
 WfPs slices_Growasl_byte_byte_at_nil_rs (x24, ()) →
 LoopJ (List UInt8 × Int × Unit) (x24, (0 : Int), ()) fun y next =>
 WfY pl_slices_Concatasl_byte_byte_11.kinds y →
 slices_Concatasl_byte_byte_l11 slices0 y.1 y.2.1 next K)))
def slices_Concatasl_byte_byte_q (slices0 : List (List UInt8)) (K : List UInt8 -> Prop) : Prop :=
 LoopJ (Int × Int × Unit) ((0 : Int), (0 : Int), ()) fun y next =>
 WfY pl_slices_Concatasl_byte_byte_3.kinds y →
 slices_Concatasl_byte_byte_l3 slices0 y.1 y.2.1 next K
noncomputable def tab_slices_Concatasl_byte_byte : Tab := ⟨[(f_slices_Growasl_byte_byte, ct_slices_Growasl_byte_byte_at_nil)], []⟩
abbrev slices_Concatasl_byte_byte_L (x : PkTs slices_Concatasl_byte_byte_ps) (K : PkTs slices_Concatasl_byte_byte_rs -> Prop) : Prop := slices_Concatasl_byte_byte_q x.1 (fun r0 => K (r0, ()))
theorem slices_Concatasl_byte_byte_eq : slices_Concatasl_byte_byte_L = fun x K => PCode Try.prog tab_slices_Concatasl_byte_byte plan_slices_Concatasl_byte_byte (bodyOf Try.f58) (parS slices_Concatasl_byte_byte_ps x) (PRet Try.prog Try.f58.results.toList fun a st => outP slices_Concatasl_byte_byte_rs st a K) := by kernel_rfl
theorem slices_Concatasl_byte_byte_fq : FnQ Try.prog f_slices_Concatasl_byte_byte slices_Concatasl_byte_byte_ps slices_Concatasl_byte_byte_rs slices_Concatasl_byte_byte_L := (fnQ_of k_slices_Concatasl_byte_byte (tab := tab_slices_Concatasl_byte_byte) ⟨⟨ct_slices_Growasl_byte_byte_at_nil_ok, trivial⟩, trivial⟩ rfl).of_eq slices_Concatasl_byte_byte_eq
noncomputable def ct_slices_Concatasl_byte_byte : Ct := ctVal slices_Concatasl_byte_byte_ps slices_Concatasl_byte_byte_rs slices_Concatasl_byte_byte_L
theorem ct_slices_Concatasl_byte_byte_ok : SoundCt Try.prog f_slices_Concatasl_byte_byte ct_slices_Concatasl_byte_byte := ctVal_sound slices_Concatasl_byte_byte_fq
def plan_attr_writer_put : PPlan := ⟨[], [], [], [], [], []⟩
theorem k_attr_writer_put : Known Try.prog f_attr_writer_put Try.f28 plan_attr_writer_put.plan (bodyOf Try.f28) := by refine ⟨Try.func28, ?_, ?_, ?_, ?_, ?_⟩ <;> kernel_rfl
abbrev attr_writer_put_ps : List Pk := [Pk.int .u8, Pk.int .i64, Pk.lst [Kd.lst [Kd.int .u8]]]
abbrev attr_writer_put_rs : List Pk := []
abbrev attr_writer_put_os : List PK := [PK.row T_uint8 [Kd.int .u8]]
def attr_writer_put_j0 (x11 : List UInt8) (j0 : List UInt8) (K : List UInt8 -> Prop) : Prop :=
 j0.length + x11.length <= 140737488355232 ∧
 K (j0 ++ x11)
def attr_writer_put_q (c0 : List UInt8) (flags1 : Int) (kind2 : Int) (parts3 : List (List UInt8)) (K : List UInt8 -> Prop) : Prop :=
 (WfPs slices_Concatasl_byte_byte_ps (parts3, ()) →
 slices_Concatasl_byte_byte_q parts3 (fun x11 =>
 WfPs slices_Concatasl_byte_byte_rs (x11, ()) →
 IfB (decide (((x11.length : Int) : Int) > 255))
 ((0 : Int) <= 8 ∧
 c0.length + ([(ofI .u8 (bitsOr .u8 flags1 16)), (ofI .u8 (IntKind.wrap .u8 kind2)), (ofI .u8 (IntKind.wrap .u8 (Int.fdiv (x11.length : Int) 256))), (ofI .u8 (IntKind.wrap .u8 (x11.length : Int)))] : List UInt8).length <= 140737488355232 ∧
 attr_writer_put_j0 x11 (c0 ++ ([(ofI .u8 (bitsOr .u8 flags1 16)), (ofI .u8 (IntKind.wrap .u8 kind2)), (ofI .u8 (IntKind.wrap .u8 (Int.fdiv (x11.length : Int) 256))), (ofI .u8 (IntKind.wrap .u8 (x11.length : Int)))] : List UInt8)) K)
 (c0.length + ([(ofI .u8 flags1), (ofI .u8 (IntKind.wrap .u8 kind2)), (ofI .u8 (IntKind.wrap .u8 (x11.length : Int)))] : List UInt8).length <= 140737488355232 ∧
 attr_writer_put_j0 x11 (c0 ++ ([(ofI .u8 flags1), (ofI .u8 (IntKind.wrap .u8 kind2)), (ofI .u8 (IntKind.wrap .u8 (x11.length : Int)))] : List UInt8)) K)))
noncomputable def tab_attr_writer_put : Tab := ⟨[(f_slices_Concatasl_byte_byte, ct_slices_Concatasl_byte_byte)], []⟩
theorem attr_writer_put_eq : (fun (o : PTup attr_writer_put_os) (x : PkTs attr_writer_put_ps) (K : PTup attr_writer_put_os -> PkTs attr_writer_put_rs -> Prop) => attr_writer_put_q o.1 x.1 x.2.1 x.2.2.1 (fun o0 => K (o0, ()) (()))) = fun o x K => PCode Try.prog tab_attr_writer_put plan_attr_writer_put (bodyOf Try.f28) (parO T_attr_writer attr_writer_put_os attr_writer_put_ps o x) (PRet Try.prog Try.f28.results.toList fun a st => outO T_attr_writer attr_writer_put_os attr_writer_put_rs st a K) := by kernel_rfl
theorem attr_writer_put_fq : FnO Try.prog f_attr_writer_put T_attr_writer attr_writer_put_os attr_writer_put_ps attr_writer_put_rs (fun o x K => attr_writer_put_q o.1 x.1 x.2.1 x.2.2.1 (fun o0 => K (o0, ()) (()))) := (fnO_of k_attr_writer_put (tab := tab_attr_writer_put) ⟨⟨ct_slices_Concatasl_byte_byte_ok, trivial⟩, trivial⟩ rfl).of_eq attr_writer_put_eq
noncomputable def ct_attr_writer_put : Ct := ctObj T_attr_writer attr_writer_put_os attr_writer_put_ps attr_writer_put_rs (fun o x K => attr_writer_put_q o.1 x.1 x.2.1 x.2.2.1 (fun o0 => K (o0, ()) (())))
theorem ct_attr_writer_put_ok : SoundCt Try.prog f_attr_writer_put ct_attr_writer_put := ctObj_sound attr_writer_put_fq
def plan_attr_writer_usual : PPlan := ⟨[], [], [], [], [], []⟩
theorem k_attr_writer_usual : Known Try.prog f_attr_writer_usual Try.f24 plan_attr_writer_usual.plan (bodyOf Try.f24) := by refine ⟨Try.func24, ?_, ?_, ?_, ?_, ?_⟩ <;> kernel_rfl
abbrev attr_writer_usual_ps : List Pk := [Pk.int .i64, Pk.lst [Kd.lst [Kd.int .u8]]]
abbrev attr_writer_usual_rs : List Pk := []
abbrev attr_writer_usual_os : List PK := [PK.row T_uint8 [Kd.int .u8]]
def attr_writer_usual_q (c0 : List UInt8) (kind1 : Int) (parts2 : List (List UInt8)) (K : List UInt8 -> Prop) : Prop :=
 (WfPs attr_known_ps (kind1, ()) →
 attr_known_q kind1 (fun x10r0 x10r1 =>
 WfPs attr_known_rs (x10r0, x10r1, ()) →
 (WfY attr_writer_put_os (c0, ()) →
 WfPs attr_writer_put_ps (x10r0, kind1, parts2, ()) →
 attr_writer_put_q c0 x10r0 kind1 parts2 (fun ox170 =>
 WfY attr_writer_put_os (ox170, ()) →
 WfPs attr_writer_put_rs () →
 K ox170))))
noncomputable def tab_attr_writer_usual : Tab := ⟨[(f_attr_writer_put, ct_attr_writer_put), (f_attr_known, ct_attr_known)], []⟩
theorem attr_writer_usual_eq : (fun (o : PTup attr_writer_usual_os) (x : PkTs attr_writer_usual_ps) (K : PTup attr_writer_usual_os -> PkTs attr_writer_usual_rs -> Prop) => attr_writer_usual_q o.1 x.1 x.2.1 (fun o0 => K (o0, ()) (()))) = fun o x K => PCode Try.prog tab_attr_writer_usual plan_attr_writer_usual (bodyOf Try.f24) (parO T_attr_writer attr_writer_usual_os attr_writer_usual_ps o x) (PRet Try.prog Try.f24.results.toList fun a st => outO T_attr_writer attr_writer_usual_os attr_writer_usual_rs st a K) := by kernel_rfl
theorem attr_writer_usual_fq : FnO Try.prog f_attr_writer_usual T_attr_writer attr_writer_usual_os attr_writer_usual_ps attr_writer_usual_rs (fun o x K => attr_writer_usual_q o.1 x.1 x.2.1 (fun o0 => K (o0, ()) (()))) := (fnO_of k_attr_writer_usual (tab := tab_attr_writer_usual) ⟨⟨ct_attr_writer_put_ok, ct_attr_known_ok, trivial⟩, trivial⟩ rfl).of_eq attr_writer_usual_eq
noncomputable def ct_attr_writer_usual : Ct := ctObj T_attr_writer attr_writer_usual_os attr_writer_usual_ps attr_writer_usual_rs (fun o x K => attr_writer_usual_q o.1 x.1 x.2.1 (fun o0 => K (o0, ()) (())))
theorem ct_attr_writer_usual_ok : SoundCt Try.prog f_attr_writer_usual ct_attr_writer_usual := ctObj_sound attr_writer_usual_fq
def plan_attr_num : PPlan := ⟨[], [], [], [], [], []⟩
theorem k_attr_num : Known Try.prog f_attr_num Try.f25 plan_attr_num.plan (bodyOf Try.f25) := by refine ⟨Try.func25, ?_, ?_, ?_, ?_, ?_⟩ <;> kernel_rfl
abbrev attr_num_ps : List Pk := [Pk.int .u32]
abbrev attr_num_rs : List Pk := [Pk.own T_uint8 [Kd.int .u8]]
def attr_num_q (n0 : Int) (K : List UInt8 -> Prop) : Prop :=
 (0 : Int) <= 24 ∧
 (0 : Int) <= 16 ∧
 (0 : Int) <= 8 ∧
 K ([(ofI .u8 (IntKind.wrap .u8 (Int.fdiv n0 16777216))), (ofI .u8 (IntKind.wrap .u8 (Int.fdiv n0 65536))), (ofI .u8 (IntKind.wrap .u8 (Int.fdiv n0 256))), (ofI .u8 (IntKind.wrap .u8 n0))] : List UInt8)
noncomputable def tab_attr_num : Tab := ⟨[], []⟩
abbrev attr_num_L (x : PkTs attr_num_ps) (K : PkTs attr_num_rs -> Prop) : Prop := attr_num_q x.1 (fun r0 => K (r0, ()))
theorem attr_num_eq : attr_num_L = fun x K => PCode Try.prog tab_attr_num plan_attr_num (bodyOf Try.f25) (parS attr_num_ps x) (PRet Try.prog Try.f25.results.toList fun a st => outP attr_num_rs st a K) := by kernel_rfl
theorem attr_num_fq : FnQ Try.prog f_attr_num attr_num_ps attr_num_rs attr_num_L := (fnQ_of k_attr_num (tab := tab_attr_num) ⟨trivial, trivial⟩ rfl).of_eq attr_num_eq
noncomputable def ct_attr_num : Ct := ctVal attr_num_ps attr_num_rs attr_num_L
theorem ct_attr_num_ok : SoundCt Try.prog f_attr_num ct_attr_num := ctVal_sound attr_num_fq
def plan_attr_system : PPlan := ⟨[], [], [], [], [], []⟩
theorem k_attr_system : Known Try.prog f_attr_system Try.f53 plan_attr_system.plan (bodyOf Try.f53) := by refine ⟨Try.func53, ?_, ?_, ?_, ?_, ?_⟩ <;> kernel_rfl
abbrev attr_system_ps : List Pk := [Pk.int .u32, Pk.bool]
abbrev attr_system_rs : List Pk := [Pk.lst [Kd.int .u8]]
def attr_system_j0 (j0 : Int) (K : List UInt8 -> Prop) : Prop :=
 (WfPs attr_num_ps (j0, ()) →
 attr_num_q j0 (fun x13 =>
 WfPs attr_num_rs (x13, ()) →
 (0 : Int) <= 2 ∧ 2 <= (x13.length : Int) ∧
 K (x13.drop 2)))
def attr_system_q (as0 : Int) (four1 : Bool) (K : List UInt8 -> Prop) : Prop :=
 IfB four1
 ((WfPs attr_num_ps (as0, ()) →
 attr_num_q as0 (fun x8 =>
 WfPs attr_num_rs (x8, ()) →
 K x8)))
 (IfB (decide ((as0 : Int) > 65535))
 (attr_system_j0 23456 K)
 (attr_system_j0 as0 K))
noncomputable def tab_attr_system : Tab := ⟨[(f_attr_num, ct_attr_num)], []⟩
abbrev attr_system_L (x : PkTs attr_system_ps) (K : PkTs attr_system_rs -> Prop) : Prop := attr_system_q x.1 x.2.1 (fun r0 => K (r0, ()))
theorem attr_system_eq : attr_system_L = fun x K => PCode Try.prog tab_attr_system plan_attr_system (bodyOf Try.f53) (parS attr_system_ps x) (PRet Try.prog Try.f53.results.toList fun a st => outP attr_system_rs st a K) := by kernel_rfl
theorem attr_system_fq : FnQ Try.prog f_attr_system attr_system_ps attr_system_rs attr_system_L := (fnQ_of k_attr_system (tab := tab_attr_system) ⟨⟨ct_attr_num_ok, trivial⟩, trivial⟩ rfl).of_eq attr_system_eq
noncomputable def ct_attr_system : Ct := ctVal attr_system_ps attr_system_rs attr_system_L
theorem ct_attr_system_ok : SoundCt Try.prog f_attr_system ct_attr_system := ctVal_sound attr_system_fq
def pl_attr_writer_perhaps_10 : PLoop := ⟨[(6, PK.row T_sl_uint8 [Kd.lst [Kd.int .u8]]), (40, PK.int .i64)], [0, 38, 39], []⟩
def plan_attr_writer_perhaps : PPlan := ⟨[(6, [0, 1, 2, 3, 5, 6, 4, 7, 8, 9], [29])], [(10, pl_attr_writer_perhaps_10)], [], [], [], []⟩
theorem k_attr_writer_perhaps : Known Try.prog f_attr_writer_perhaps Try.f26 plan_attr_writer_perhaps.plan (bodyOf Try.f26) := by refine ⟨Try.func26, ?_, ?_, ?_, ?_, ?_⟩ <;> kernel_rfl
abbrev attr_writer_perhaps_ps : List Pk := [Pk.agg [Kd.int .i64, Kd.lst [Kd.bool, Kd.lst [Kd.int .u32]], Kd.int .u32, Kd.bool, Kd.int .u32, Kd.bool, Kd.int .u32, Kd.bool, Kd.bool, Kd.int .u32, Kd.int .u32, Kd.lst [Kd.int .u32], Kd.lst [Kd.int .i64, Kd.lst [Kd.int .u8]]], Pk.bool]
abbrev attr_writer_perhaps_rs : List Pk := []
abbrev attr_writer_perhaps_os : List PK := [PK.row T_uint8 [Kd.int .u8]]
def attr_writer_perhaps_l10 (j0_2 : List UInt8) (a1 : Ty1) (l6 : List (List UInt8)) (x40 : Int) (next10 : (List (List UInt8) × Int × Unit) -> Prop) (K : List UInt8 -> Prop) : Prop :=
 IfB (decide ((x40 : Int) < (a1.2.2.2.2.2.2.2.2.2.2.2.1.length : Int)))
 ((0 : Int) <= x40 ∧ AtN a1.2.2.2.2.2.2.2.2.2.2.2.1 x40.toNat fun x42 =>
 WfT ks_int_u32 x42 →
 (WfPs attr_num_ps ((x42.toNat : Int), ()) →
 attr_num_q (x42.toNat : Int) (fun x46 =>
 WfPs attr_num_rs (x46, ()) →
 l6.length + ([x46] : List (List UInt8)).length <= 5864062014709 ∧
 next10 ((l6 ++ ([x46] : List (List UInt8))), (IntKind.wrap .i64 (x40 + 1)), ()))))
 ((WfY attr_writer_usual_os (j0_2, ()) →
 WfPs attr_writer_usual_ps ((8 : Int), l6, ()) →
 attr_writer_usual_q j0_2 (8 : Int) l6 (fun ox520 =>
 WfY attr_writer_usual_os (ox520, ()) →
 WfPs attr_writer_usual_rs () →
 K ox520)))
def attr_writer_perhaps_j2 (a1 : Ty1) (j0_2 : List UInt8) (K : List UInt8 -> Prop) : Prop :=
 IfB (decide (((a1.2.2.2.2.2.2.2.2.2.2.2.1.length : Int) : Int) > 0))
 (LoopJ (List (List UInt8) × Int × Unit) (([] : List (List UInt8)), (0 : Int), ()) fun y next =>
 WfY pl_attr_writer_perhaps_10.kinds y →
 attr_writer_perhaps_l10 j0_2 a1 y.1 y.2.1 next K)
 (K j0_2)
def attr_writer_perhaps_j1 (four2 : Bool) (a1 : Ty1) (j0_1 : List UInt8) (K : List UInt8 -> Prop) : Prop :=
 IfB a1.2.2.2.2.2.2.2.2.1
 ((WfPs attr_system_ps ((a1.2.2.2.2.2.2.2.2.2.1.toNat : Int), four2, ()) →
 attr_system_q (a1.2.2.2.2.2.2.2.2.2.1.toNat : Int) four2 (fun x27 =>
 WfPs attr_system_rs (x27, ()) →
 (WfPs attr_num_ps ((a1.2.2.2.2.2.2.2.2.2.2.1.toNat : Int), ()) →
 attr_num_q (a1.2.2.2.2.2.2.2.2.2.2.1.toNat : Int) (fun x30 =>
 WfPs attr_num_rs (x30, ()) →
 (WfY attr_writer_usual_os (j0_1, ()) →
 WfPs attr_writer_usual_ps ((7 : Int), ([x27, x30] : List (List UInt8)), ()) →
 attr_writer_usual_q j0_1 (7 : Int) ([x27, x30] : List (List UInt8)) (fun ox320 =>
 WfY attr_writer_usual_os (ox320, ()) →
 WfPs attr_writer_usual_rs () →
 attr_writer_perhaps_j2 a1 ox320 K)))))))
 (attr_writer_perhaps_j2 a1 j0_1 K)
def attr_writer_perhaps_j0 (four2 : Bool) (a1 : Ty1) (j0 : List UInt8) (K : List UInt8 -> Prop) : Prop :=
 IfB a1.2.2.2.2.2.2.2.1
 ((WfY attr_writer_usual_os (j0, ()) →
 WfPs attr_writer_usual_ps ((6 : Int), ([] : List (List UInt8)), ()) →
 attr_writer_usual_q j0 (6 : Int) ([] : List (List UInt8)) (fun ox200 =>
 WfY attr_writer_usual_os (ox200, ()) →
 WfPs attr_writer_usual_rs () →
 attr_writer_perhaps_j1 four2 a1 ox200 K)))
 (attr_writer_perhaps_j1 four2 a1 j0 K)
def attr_writer_perhaps_q (c0 : List UInt8) (a1 : Ty1) (four2 : Bool) (K : List UInt8 -> Prop) : Prop :=
 IfB a1.2.2.2.1
 ((WfPs attr_num_ps ((a1.2.2.2.2.1.toNat : Int), ()) →
 attr_num_q (a1.2.2.2.2.1.toNat : Int) (fun x14 =>
 WfPs attr_num_rs (x14, ()) →
 (WfY attr_writer_usual_os (c0, ()) →
 WfPs attr_writer_usual_ps ((4 : Int), ([x14] : List (List UInt8)), ()) →
 attr_writer_usual_q c0 (4 : Int) ([x14] : List (List UInt8)) (fun ox160 =>
 WfY attr_writer_usual_os (ox160, ()) →
 WfPs attr_writer_usual_rs () →
 attr_writer_perhaps_j0 four2 a1 ox160 K)))))
 (attr_writer_perhaps_j0 four2 a1 c0 K)
noncomputable def tab_attr_writer_perhaps : Tab := ⟨[(f_attr_writer_usual, ct_attr_writer_usual), (f_attr_num, ct_attr_num), (f_attr_system, ct_attr_system)], []⟩
theorem attr_writer_perhaps_eq : (fun (o : PTup attr_writer_perhaps_os) (x : PkTs attr_writer_perhaps_ps) (K : PTup attr_writer_perhaps_os -> PkTs attr_writer_perhaps_rs -> Prop) => attr_writer_perhaps_q o.1 x.1 x.2.1 (fun o0 => K (o0, ()) (()))) = fun o x K => PCode Try.prog tab_attr_writer_perhaps plan_attr_writer_perhaps (bodyOf Try.f26) (parO T_attr_writer attr_writer_perhaps_os attr_writer_perhaps_ps o x) (PRet Try.prog Try.f26.results.toList fun a st => outO T_attr_writer attr_writer_perhaps_os attr_writer_perhaps_rs st a K) := by kernel_rfl
theorem attr_writer_perhaps_fq : FnO Try.prog f_attr_writer_perhaps T_attr_writer attr_writer_perhaps_os attr_writer_perhaps_ps attr_writer_perhaps_rs (fun o x K => attr_writer_perhaps_q o.1 x.1 x.2.1 (fun o0 => K (o0, ()) (()))) := (fnO_of k_attr_writer_perhaps (tab := tab_attr_writer_perhaps) ⟨⟨ct_attr_writer_usual_ok, ct_attr_num_ok, ct_attr_system_ok, trivial⟩, trivial⟩ rfl).of_eq attr_writer_perhaps_eq
noncomputable def ct_attr_writer_perhaps : Ct := ctObj T_attr_writer attr_writer_perhaps_os attr_writer_perhaps_ps attr_writer_perhaps_rs (fun o x K => attr_writer_perhaps_q o.1 x.1 x.2.1 (fun o0 => K (o0, ()) (())))
theorem ct_attr_writer_perhaps_ok : SoundCt Try.prog f_attr_writer_perhaps ct_attr_writer_perhaps := ctObj_sound attr_writer_perhaps_fq
def plan_attr_great_1_1 : PPlan := ⟨[], [], [], [], [], []⟩
theorem k_attr_great_1_1 : Known Try.prog f_attr_great_1_1 Try.f57 plan_attr_great_1_1.plan (bodyOf Try.f57) := by refine ⟨Try.func57, ?_, ?_, ?_, ?_, ?_⟩ <;> kernel_rfl
abbrev attr_great_1_1_ps : List Pk := [Pk.int .u32]
abbrev attr_great_1_1_rs : List Pk := [Pk.bool]
def attr_great_1_1_q (as0 : Int) (K : Bool -> Prop) : Prop :=
 K (decide ((as0 : Int) > 65535))
noncomputable def tab_attr_great_1_1 : Tab := ⟨[], []⟩
abbrev attr_great_1_1_L (x : PkTs attr_great_1_1_ps) (K : PkTs attr_great_1_1_rs -> Prop) : Prop := attr_great_1_1_q x.1 (fun r0 => K (r0, ()))
theorem attr_great_1_1_eq : attr_great_1_1_L = fun x K => PCode Try.prog tab_attr_great_1_1 plan_attr_great_1_1 (bodyOf Try.f57) (parS attr_great_1_1_ps x) (PRet Try.prog Try.f57.results.toList fun a st => outP attr_great_1_1_rs st a K) := by kernel_rfl
theorem attr_great_1_1_fq : FnQ Try.prog f_attr_great_1_1 attr_great_1_1_ps attr_great_1_1_rs attr_great_1_1_L := (fnQ_of k_attr_great_1_1 (tab := tab_attr_great_1_1) ⟨trivial, trivial⟩ rfl).of_eq attr_great_1_1_eq
noncomputable def ct_attr_great_1_1 : Ct := ctRd attr_great_1_1_ps attr_great_1_1_rs attr_great_1_1_L
theorem ct_attr_great_1_1_ok : SoundCt Try.prog f_attr_great_1_1 ct_attr_great_1_1 := ctRd_sound attr_great_1_1_fq
def pl_slices_IndexFuncasl_uint32_uint32_at_attr_great_1_1_2 : PLoop := ⟨[(8, PK.int .i64)], [0, 1, 7], []⟩
def plan_slices_IndexFuncasl_uint32_uint32_at_attr_great_1_1 : PPlan := ⟨[], [(2, pl_slices_IndexFuncasl_uint32_uint32_at_attr_great_1_1_2)], [], [], [], []⟩
theorem k_slices_IndexFuncasl_uint32_uint32_at_attr_great_1_1 : Known Try.prog f_slices_IndexFuncasl_uint32_uint32 Try.f69 plan_slices_IndexFuncasl_uint32_uint32_at_attr_great_1_1.plan (bodyOf Try.f69) := by refine ⟨Try.func69, ?_, ?_, ?_, ?_, ?_⟩ <;> kernel_rfl
abbrev slices_IndexFuncasl_uint32_uint32_at_attr_great_1_1_ps : List Pk := [Pk.lst [Kd.int .u32], Pk.fn 57]
abbrev slices_IndexFuncasl_uint32_uint32_at_attr_great_1_1_rs : List Pk := [Pk.int .i64]
def slices_IndexFuncasl_uint32_uint32_at_attr_great_1_1_l2 (s0 : List UInt32) (x8 : Int) (next2 : (Int × Unit) -> Prop) (K : Int -> Prop) : Prop :=
 IfB (decide ((x8 : Int) < (s0.length : Int)))
 ((0 : Int) <= x8 ∧ AtN s0 x8.toNat fun x14 =>
 WfT ks_int_u32 x14 →
 (WfPs attr_great_1_1_ps ((x14.toNat : Int), ()) →
 attr_great_1_1_q (x14.toNat : Int) (fun x16 =>
 WfPs attr_great_1_1_rs (x16, ()) →
 IfB x16
 (K x8)
 (next2 ((IntKind.wrap .i64 (x8 + 1)), ())))))
 (K (-1))
def slices_IndexFuncasl_uint32_uint32_at_attr_great_1_1_q (s0 : List UInt32) (K : Int -> Prop) : Prop :=
 LoopJ (Int × Unit) ((0 : Int), ()) fun y next =>
 WfY pl_slices_IndexFuncasl_uint32_uint32_at_attr_great_1_1_2.kinds y →
 slices_IndexFuncasl_uint32_uint32_at_attr_great_1_1_l2 s0 y.1 next K
noncomputable def tab_slices_IndexFuncasl_uint32_uint32_at_attr_great_1_1 : Tab := ⟨[(f_attr_great_1_1, ct_attr_great_1_1)], []⟩
abbrev slices_IndexFuncasl_uint32_uint32_at_attr_great_1_1_L (x : PkTs slices_IndexFuncasl_uint32_uint32_at_attr_great_1_1_ps) (K : PkTs slices_IndexFuncasl_uint32_uint32_at_attr_great_1_1_rs -> Prop) : Prop := slices_IndexFuncasl_uint32_uint32_at_attr_great_1_1_q x.1 (fun r0 => K (r0, ()))
theorem slices_IndexFuncasl_uint32_uint32_at_attr_great_1_1_eq : slices_IndexFuncasl_uint32_uint32_at_attr_great_1_1_L = fun x K => PCode Try.prog tab_slices_IndexFuncasl_uint32_uint32_at_attr_great_1_1 plan_slices_IndexFuncasl_uint32_uint32_at_attr_great_1_1 (bodyOf Try.f69) (parS slices_IndexFuncasl_uint32_uint32_at_attr_great_1_1_ps x) (PRet Try.prog Try.f69.results.toList fun a st => outP slices_IndexFuncasl_uint32_uint32_at_attr_great_1_1_rs st a K) := by kernel_rfl
theorem slices_IndexFuncasl_uint32_uint32_at_attr_great_1_1_fq : FnQ Try.prog f_slices_IndexFuncasl_uint32_uint32 slices_IndexFuncasl_uint32_uint32_at_attr_great_1_1_ps slices_IndexFuncasl_uint32_uint32_at_attr_great_1_1_rs slices_IndexFuncasl_uint32_uint32_at_attr_great_1_1_L := (fnQ_of k_slices_IndexFuncasl_uint32_uint32_at_attr_great_1_1 (tab := tab_slices_IndexFuncasl_uint32_uint32_at_attr_great_1_1) ⟨⟨ct_attr_great_1_1_ok, trivial⟩, trivial⟩ rfl).of_eq slices_IndexFuncasl_uint32_uint32_at_attr_great_1_1_eq
noncomputable def ct_slices_IndexFuncasl_uint32_uint32_at_attr_great_1_1 : Ct := ctRd slices_IndexFuncasl_uint32_uint32_at_attr_great_1_1_ps slices_IndexFuncasl_uint32_uint32_at_attr_great_1_1_rs slices_IndexFuncasl_uint32_uint32_at_attr_great_1_1_L
theorem ct_slices_IndexFuncasl_uint32_uint32_at_attr_great_1_1_ok : SoundCt Try.prog f_slices_IndexFuncasl_uint32_uint32 ct_slices_IndexFuncasl_uint32_uint32_at_attr_great_1_1 := ctRd_sound slices_IndexFuncasl_uint32_uint32_at_attr_great_1_1_fq
def plan_slices_ContainsFuncasl_uint32_uint32_at_attr_great_1_1 : PPlan := ⟨[], [], [], [], [], []⟩
theorem k_slices_ContainsFuncasl_uint32_uint32_at_attr_great_1_1 : Known Try.prog f_slices_ContainsFuncasl_uint32_uint32 Try.f56 plan_slices_ContainsFuncasl_uint32_uint32_at_attr_great_1_1.plan (bodyOf Try.f56) := by refine ⟨Try.func56, ?_, ?_, ?_, ?_, ?_⟩ <;> kernel_rfl
abbrev slices_ContainsFuncasl_uint32_uint32_at_attr_great_1_1_ps : List Pk := [Pk.lst [Kd.int .u32], Pk.fn 57]
abbrev slices_ContainsFuncasl_uint32_uint32_at_attr_great_1_1_rs : List Pk := [Pk.bool]
def slices_ContainsFuncasl_uint32_uint32_at_attr_great_1_1_q (s0 : List UInt32) (K : Bool -> Prop) : Prop :=
 (WfPs slices_IndexFuncasl_uint32_uint32_at_attr_great_1_1_ps (s0, (), ()) →
 slices_IndexFuncasl_uint32_uint32_at_attr_great_1_1_q s0 (fun x7 =>
 WfPs slices_IndexFuncasl_uint32_uint32_at_attr_great_1_1_rs (x7, ()) →
 K (decide ((x7 : Int) ≥ 0))))
noncomputable def tab_slices_ContainsFuncasl_uint32_uint32_at_attr_great_1_1 : Tab := ⟨[(f_slices_IndexFuncasl_uint32_uint32, ctDisp 1 [(f_attr_great_1_1, ct_slices_IndexFuncasl_uint32_uint32_at_attr_great_1_1)])], []⟩
abbrev slices_ContainsFuncasl_uint32_uint32_at_attr_great_1_1_L (x : PkTs slices_ContainsFuncasl_uint32_uint32_at_attr_great_1_1_ps) (K : PkTs slices_ContainsFuncasl_uint32_uint32_at_attr_great_1_1_rs -> Prop) : Prop := slices_ContainsFuncasl_uint32_uint32_at_attr_great_1_1_q x.1 (fun r0 => K (r0, ()))
theorem slices_ContainsFuncasl_uint32_uint32_at_attr_great_1_1_eq : slices_ContainsFuncasl_uint32_uint32_at_attr_great_1_1_L = fun x K => PCode Try.prog tab_slices_ContainsFuncasl_uint32_uint32_at_attr_great_1_1 plan_slices_ContainsFuncasl_uint32_uint32_at_attr_great_1_1 (bodyOf Try.f56) (parS slices_ContainsFuncasl_uint32_uint32_at_attr_great_1_1_ps x) (PRet Try.prog Try.f56.results.toList fun a st => outP slices_ContainsFuncasl_uint32_uint32_at_attr_great_1_1_rs st a K) := by kernel_rfl
theorem slices_ContainsFuncasl_uint32_uint32_at_attr_great_1_1_fq : FnQ Try.prog f_slices_ContainsFuncasl_uint32_uint32 slices_ContainsFuncasl_uint32_uint32_at_attr_great_1_1_ps slices_ContainsFuncasl_uint32_uint32_at_attr_great_1_1_rs slices_ContainsFuncasl_uint32_uint32_at_attr_great_1_1_L := (fnQ_of k_slices_ContainsFuncasl_uint32_uint32_at_attr_great_1_1 (tab := tab_slices_ContainsFuncasl_uint32_uint32_at_attr_great_1_1) ⟨⟨ctDisp_sound ⟨ct_slices_IndexFuncasl_uint32_uint32_at_attr_great_1_1_ok, trivial⟩, trivial⟩, trivial⟩ rfl).of_eq slices_ContainsFuncasl_uint32_uint32_at_attr_great_1_1_eq
noncomputable def ct_slices_ContainsFuncasl_uint32_uint32_at_attr_great_1_1 : Ct := ctRd slices_ContainsFuncasl_uint32_uint32_at_attr_great_1_1_ps slices_ContainsFuncasl_uint32_uint32_at_attr_great_1_1_rs slices_ContainsFuncasl_uint32_uint32_at_attr_great_1_1_L
theorem ct_slices_ContainsFuncasl_uint32_uint32_at_attr_great_1_1_ok : SoundCt Try.prog f_slices_ContainsFuncasl_uint32_uint32 ct_slices_ContainsFuncasl_uint32_uint32_at_attr_great_1_1 := ctRd_sound slices_ContainsFuncasl_uint32_uint32_at_attr_great_1_1_fq
def plan_attr_great_1 : PPlan := ⟨[], [], [], [], [], []⟩
theorem k_attr_great_1 : Known Try.prog f_attr_great_1 Try.f55 plan_attr_great_1.plan (bodyOf Try.f55) := by refine ⟨Try.func55, ?_, ?_, ?_, ?_, ?_⟩ <;> kernel_rfl
abbrev attr_great_1_ps : List Pk := [Pk.agg [Kd.bool, Kd.lst [Kd.int .u32]]]
abbrev attr_great_1_rs : List Pk := [Pk.bool]
def attr_great_1_q (s0 : Bool × List UInt32) (K : Bool -> Prop) : Prop :=
 (WfPs slices_ContainsFuncasl_uint32_uint32_at_attr_great_1_1_ps (s0.2, (), ()) →
 slices_ContainsFuncasl_uint32_uint32_at_attr_great_1_1_q s0.2 (fun x5 =>
 WfPs slices_ContainsFuncasl_uint32_uint32_at_attr_great_1_1_rs (x5, ()) →
 K x5))
noncomputable def tab_attr_great_1 : Tab := ⟨[(f_slices_ContainsFuncasl_uint32_uint32, ctDisp 1 [(f_attr_great_1_1, ct_slices_ContainsFuncasl_uint32_uint32_at_attr_great_1_1)])], []⟩
abbrev attr_great_1_L (x : PkTs attr_great_1_ps) (K : PkTs attr_great_1_rs -> Prop) : Prop := attr_great_1_q x.1 (fun r0 => K (r0, ()))
theorem attr_great_1_eq : attr_great_1_L = fun x K => PCode Try.prog tab_attr_great_1 plan_attr_great_1 (bodyOf Try.f55) (parS attr_great_1_ps x) (PRet Try.prog Try.f55.results.toList fun a st => outP attr_great_1_rs st a K) := by kernel_rfl
theorem attr_great_1_fq : FnQ Try.prog f_attr_great_1 attr_great_1_ps attr_great_1_rs attr_great_1_L := (fnQ_of k_attr_great_1 (tab := tab_attr_great_1) ⟨⟨ctDisp_sound ⟨ct_slices_ContainsFuncasl_uint32_uint32_at_attr_great_1_1_ok, trivial⟩, trivial⟩, trivial⟩ rfl).of_eq attr_great_1_eq
noncomputable def ct_attr_great_1 : Ct := ctRd attr_great_1_ps attr_great_1_rs attr_great_1_L
theorem ct_attr_great_1_ok : SoundCt Try.prog f_attr_great_1 ct_attr_great_1 := ctRd_sound attr_great_1_fq
def pl_slices_IndexFuncasl_api_Segment_api_Segment_at_attr_great_1_2 : PLoop := ⟨[(8, PK.int .i64)], [0, 1, 7], []⟩
def plan_slices_IndexFuncasl_api_Segment_api_Segment_at_attr_great_1 : PPlan := ⟨[], [(2, pl_slices_IndexFuncasl_api_Segment_api_Segment_at_attr_great_1_2)], [], [], [], []⟩
theorem k_slices_IndexFuncasl_api_Segment_api_Segment_at_attr_great_1 : Known Try.prog f_slices_IndexFuncasl_api_Segment_api_Segment Try.f68 plan_slices_IndexFuncasl_api_Segment_api_Segment_at_attr_great_1.plan (bodyOf Try.f68) := by refine ⟨Try.func68, ?_, ?_, ?_, ?_, ?_⟩ <;> kernel_rfl
abbrev slices_IndexFuncasl_api_Segment_api_Segment_at_attr_great_1_ps : List Pk := [Pk.lst [Kd.bool, Kd.lst [Kd.int .u32]], Pk.fn 55]
abbrev slices_IndexFuncasl_api_Segment_api_Segment_at_attr_great_1_rs : List Pk := [Pk.int .i64]
def slices_IndexFuncasl_api_Segment_api_Segment_at_attr_great_1_l2 (s0 : List (Bool × List UInt32)) (x8 : Int) (next2 : (Int × Unit) -> Prop) (K : Int -> Prop) : Prop :=
 IfB (decide ((x8 : Int) < (s0.length : Int)))
 ((0 : Int) <= x8 ∧ AtN s0 x8.toNat fun x14 =>
 WfT ks_bool_lst_int_u32 x14 →
 (WfPs attr_great_1_ps (x14, ()) →
 attr_great_1_q x14 (fun x16 =>
 WfPs attr_great_1_rs (x16, ()) →
 IfB x16
 (K x8)
 (next2 ((IntKind.wrap .i64 (x8 + 1)), ())))))
 (K (-1))
def slices_IndexFuncasl_api_Segment_api_Segment_at_attr_great_1_q (s0 : List (Bool × List UInt32)) (K : Int -> Prop) : Prop :=
 LoopJ (Int × Unit) ((0 : Int), ()) fun y next =>
 WfY pl_slices_IndexFuncasl_api_Segment_api_Segment_at_attr_great_1_2.kinds y →
 slices_IndexFuncasl_api_Segment_api_Segment_at_attr_great_1_l2 s0 y.1 next K
noncomputable def tab_slices_IndexFuncasl_api_Segment_api_Segment_at_attr_great_1 : Tab := ⟨[(f_attr_great_1, ct_attr_great_1)], []⟩
abbrev slices_IndexFuncasl_api_Segment_api_Segment_at_attr_great_1_L (x : PkTs slices_IndexFuncasl_api_Segment_api_Segment_at_attr_great_1_ps) (K : PkTs slices_IndexFuncasl_api_Segment_api_Segment_at_attr_great_1_rs -> Prop) : Prop := slices_IndexFuncasl_api_Segment_api_Segment_at_attr_great_1_q x.1 (fun r0 => K (r0, ()))
theorem slices_IndexFuncasl_api_Segment_api_Segment_at_attr_great_1_eq : slices_IndexFuncasl_api_Segment_api_Segment_at_attr_great_1_L = fun x K => PCode Try.prog tab_slices_IndexFuncasl_api_Segment_api_Segment_at_attr_great_1 plan_slices_IndexFuncasl_api_Segment_api_Segment_at_attr_great_1 (bodyOf Try.f68) (parS slices_IndexFuncasl_api_Segment_api_Segment_at_attr_great_1_ps x) (PRet Try.prog Try.f68.results.toList fun a st => outP slices_IndexFuncasl_api_Segment_api_Segment_at_attr_great_1_rs st a K) := by kernel_rfl
theorem slices_IndexFuncasl_api_Segment_api_Segment_at_attr_great_1_fq : FnQ Try.prog f_slices_IndexFuncasl_api_Segment_api_Segment slices_IndexFuncasl_api_Segment_api_Segment_at_attr_great_1_ps slices_IndexFuncasl_api_Segment_api_Segment_at_attr_great_1_rs slices_IndexFuncasl_api_Segment_api_Segment_at_attr_great_1_L := (fnQ_of k_slices_IndexFuncasl_api_Segment_api_Segment_at_attr_great_1 (tab := tab_slices_IndexFuncasl_api_Segment_api_Segment_at_attr_great_1) ⟨⟨ct_attr_great_1_ok, trivial⟩, trivial⟩ rfl).of_eq slices_IndexFuncasl_api_Segment_api_Segment_at_attr_great_1_eq
noncomputable def ct_slices_IndexFuncasl_api_Segment_api_Segment_at_attr_great_1 : Ct := ctRd slices_IndexFuncasl_api_Segment_api_Segment_at_attr_great_1_ps slices_IndexFuncasl_api_Segment_api_Segment_at_attr_great_1_rs slices_IndexFuncasl_api_Segment_api_Segment_at_attr_great_1_L
theorem ct_slices_IndexFuncasl_api_Segment_api_Segment_at_attr_great_1_ok : SoundCt Try.prog f_slices_IndexFuncasl_api_Segment_api_Segment ct_slices_IndexFuncasl_api_Segment_api_Segment_at_attr_great_1 := ctRd_sound slices_IndexFuncasl_api_Segment_api_Segment_at_attr_great_1_fq
def plan_slices_ContainsFuncasl_api_Segment_api_Segment_at_attr_great_1 : PPlan := ⟨[], [], [], [], [], []⟩
theorem k_slices_ContainsFuncasl_api_Segment_api_Segment_at_attr_great_1 : Known Try.prog f_slices_ContainsFuncasl_api_Segment_api_Segment Try.f54 plan_slices_ContainsFuncasl_api_Segment_api_Segment_at_attr_great_1.plan (bodyOf Try.f54) := by refine ⟨Try.func54, ?_, ?_, ?_, ?_, ?_⟩ <;> kernel_rfl
abbrev slices_ContainsFuncasl_api_Segment_api_Segment_at_attr_great_1_ps : List Pk := [Pk.lst [Kd.bool, Kd.lst [Kd.int .u32]], Pk.fn 55]
abbrev slices_ContainsFuncasl_api_Segment_api_Segment_at_attr_great_1_rs : List Pk := [Pk.bool]
def slices_ContainsFuncasl_api_Segment_api_Segment_at_attr_great_1_q (s0 : List (Bool × List UInt32)) (K : Bool -> Prop) : Prop :=
 (WfPs slices_IndexFuncasl_api_Segment_api_Segment_at_attr_great_1_ps (s0, (), ()) →
 slices_IndexFuncasl_api_Segment_api_Segment_at_attr_great_1_q s0 (fun x7 =>
 WfPs slices_IndexFuncasl_api_Segment_api_Segment_at_attr_great_1_rs (x7, ()) →
 K (decide ((x7 : Int) ≥ 0))))
noncomputable def tab_slices_ContainsFuncasl_api_Segment_api_Segment_at_attr_great_1 : Tab := ⟨[(f_slices_IndexFuncasl_api_Segment_api_Segment, ctDisp 1 [(f_attr_great_1, ct_slices_IndexFuncasl_api_Segment_api_Segment_at_attr_great_1)])], []⟩
abbrev slices_ContainsFuncasl_api_Segment_api_Segment_at_attr_great_1_L (x : PkTs slices_ContainsFuncasl_api_Segment_api_Segment_at_attr_great_1_ps) (K : PkTs slices_ContainsFuncasl_api_Segment_api_Segment_at_attr_great_1_rs -> Prop) : Prop := slices_ContainsFuncasl_api_Segment_api_Segment_at_attr_great_1_q x.1 (fun r0 => K (r0, ()))
theorem slices_ContainsFuncasl_api_Segment_api_Segment_at_attr_great_1_eq : slices_ContainsFuncasl_api_Segment_api_Segment_at_attr_great_1_L = fun x K => PCode Try.prog tab_slices_ContainsFuncasl_api_Segment_api_Segment_at_attr_great_1 plan_slices_ContainsFuncasl_api_Segment_api_Segment_at_attr_great_1 (bodyOf Try.f54) (parS slices_ContainsFuncasl_api_Segment_api_Segment_at_attr_great_1_ps x) (PRet Try.prog Try.f54.results.toList fun a st => outP slices_ContainsFuncasl_api_Segment_api_Segment_at_attr_great_1_rs st a K) := by kernel_rfl
theorem slices_ContainsFuncasl_api_Segment_api_Segment_at_attr_great_1_fq : FnQ Try.prog f_slices_ContainsFuncasl_api_Segment_api_Segment slices_ContainsFuncasl_api_Segment_api_Segment_at_attr_great_1_ps slices_ContainsFuncasl_api_Segment_api_Segment_at_attr_great_1_rs slices_ContainsFuncasl_api_Segment_api_Segment_at_attr_great_1_L := (fnQ_of k_slices_ContainsFuncasl_api_Segment_api_Segment_at_attr_great_1 (tab := tab_slices_ContainsFuncasl_api_Segment_api_Segment_at_attr_great_1) ⟨⟨ctDisp_sound ⟨ct_slices_IndexFuncasl_api_Segment_api_Segment_at_attr_great_1_ok, trivial⟩, trivial⟩, trivial⟩ rfl).of_eq slices_ContainsFuncasl_api_Segment_api_Segment_at_attr_great_1_eq
noncomputable def ct_slices_ContainsFuncasl_api_Segment_api_Segment_at_attr_great_1 : Ct := ctRd slices_ContainsFuncasl_api_Segment_api_Segment_at_attr_great_1_ps slices_ContainsFuncasl_api_Segment_api_Segment_at_attr_great_1_rs slices_ContainsFuncasl_api_Segment_api_Segment_at_attr_great_1_L
theorem ct_slices_ContainsFuncasl_api_Segment_api_Segment_at_attr_great_1_ok : SoundCt Try.prog f_slices_ContainsFuncasl_api_Segment_api_Segment ct_slices_ContainsFuncasl_api_Segment_api_Segment_at_attr_great_1 := ctRd_sound slices_ContainsFuncasl_api_Segment_api_Segment_at_attr_great_1_fq
def plan_attr_great : PPlan := ⟨[], [], [], [], [], []⟩
theorem k_attr_great : Known Try.prog f_attr_great Try.f27 plan_attr_great.plan (bodyOf Try.f27) := by refine ⟨Try.func27, ?_, ?_, ?_, ?_, ?_⟩ <;> kernel_rfl
abbrev attr_great_ps : List Pk := [Pk.lst [Kd.bool, Kd.lst [Kd.int .u32]]]
abbrev attr_great_rs : List Pk := [Pk.bool]
def attr_great_q (p0 : List (Bool × List UInt32)) (K : Bool -> Prop) : Prop :=
 (WfPs slices_ContainsFuncasl_api_Segment_api_Segment_at_attr_great_1_ps (p0, (), ()) →
 slices_ContainsFuncasl_api_Segment_api_Segment_at_attr_great_1_q p0 (fun x4 =>
 WfPs slices_ContainsFuncasl_api_Segment_api_Segment_at_attr_great_1_rs (x4, ()) →
 K x4))
noncomputable def tab_attr_great : Tab := ⟨[(f_slices_ContainsFuncasl_api_Segment_api_Segment, ctDisp 1 [(f_attr_great_1, ct_slices_ContainsFuncasl_api_Segment_api_Segment_at_attr_great_1)])], []⟩
abbrev attr_great_L (x : PkTs attr_great_ps) (K : PkTs attr_great_rs -> Prop) : Prop := attr_great_q x.1 (fun r0 => K (r0, ()))
theorem attr_great_eq : attr_great_L = fun x K => PCode Try.prog tab_attr_great plan_attr_great (bodyOf Try.f27) (parS attr_great_ps x) (PRet Try.prog Try.f27.results.toList fun a st => outP attr_great_rs st a K) := by kernel_rfl
theorem attr_great_fq : FnQ Try.prog f_attr_great attr_great_ps attr_great_rs attr_great_L := (fnQ_of k_attr_great (tab := tab_attr_great) ⟨⟨ctDisp_sound ⟨ct_slices_ContainsFuncasl_api_Segment_api_Segment_at_attr_great_1_ok, trivial⟩, trivial⟩, trivial⟩ rfl).of_eq attr_great_eq
noncomputable def ct_attr_great : Ct := ctRd attr_great_ps attr_great_rs attr_great_L
theorem ct_attr_great_ok : SoundCt Try.prog f_attr_great ct_attr_great := ctRd_sound attr_great_fq
def pl_attr_Put_16 : PLoop := ⟨[(87, PK.int .i64)], [7, 85, 86], [(7, [PK.row T_uint8 [Kd.int .u8]])]⟩
def plan_attr_Put : PPlan := ⟨[(14, [0, 1, 2, 4, 5, 3, 6, 7, 8], [80])], [(16, pl_attr_Put_16)], [], [], [], []⟩
theorem k_attr_Put : Known Try.prog f_attr_Put Try.f9 plan_attr_Put.plan (bodyOf Try.f9) := by refine ⟨Try.func9, ?_, ?_, ?_, ?_, ?_⟩ <;> kernel_rfl
abbrev attr_Put_ps : List Pk := [Pk.agg [Kd.int .i64, Kd.lst [Kd.bool, Kd.lst [Kd.int .u32]], Kd.int .u32, Kd.bool, Kd.int .u32, Kd.bool, Kd.int .u32, Kd.bool, Kd.bool, Kd.int .u32, Kd.int .u32, Kd.lst [Kd.int .u32], Kd.lst [Kd.int .i64, Kd.lst [Kd.int .u8]]], Pk.bool]
abbrev attr_Put_rs : List Pk := [Pk.own T_uint8 [Kd.int .u8], Pk.int .i64]
def attr_Put_l16 (a0 : Ty1) (x87 : Int) (c0 : List UInt8) (next16 : (Int × List UInt8 × Unit) -> Prop) (K : List UInt8 -> Int -> Prop) : Prop :=
 IfB (decide ((x87 : Int) < (a0.2.2.2.2.2.2.2.2.2.2.2.2.length : Int)))
 ((0 : Int) <= x87 ∧ AtN a0.2.2.2.2.2.2.2.2.2.2.2.2 x87.toNat fun x89 =>
 WfT ks_int_i64_lst_int_u8 x89 →
 (WfY attr_writer_put_os (c0, ()) →
 WfPs attr_writer_put_ps ((224 : Int), x89.1, ([x89.2] : List (List UInt8)), ()) →
 attr_writer_put_q c0 (224 : Int) x89.1 ([x89.2] : List (List UInt8)) (fun ox970 =>
 WfY attr_writer_put_os (ox970, ()) →
 WfPs attr_writer_put_rs () →
 next16 ((IntKind.wrap .i64 (x87 + 1)), ox970, ()))))
 (K c0 0)
def attr_Put_j4 (j13 : List UInt8) (a0 : Ty1) (K : List UInt8 -> Int -> Prop) : Prop :=
 LoopJ (Int × List UInt8 × Unit) ((0 : Int), j13, ()) fun y next =>
 WfY pl_attr_Put_16.kinds y →
 attr_Put_l16 a0 y.1 y.2.1 next K
def attr_Put_j3 (a0 : Ty1) (j13 : List UInt8) (K : List UInt8 -> Int -> Prop) : Prop :=
 attr_Put_j4 j13 a0 K
def attr_Put_j2 (a0 : Ty1) (j14 : List UInt8) (j14_1 : Bool) (K : List UInt8 -> Int -> Prop) : Prop :=
 IfB j14_1
 ((WfPs attr_num_ps ((a0.2.2.2.2.2.2.2.2.2.1.toNat : Int), ()) →
 attr_num_q (a0.2.2.2.2.2.2.2.2.2.1.toNat : Int) (fun x78 =>
 WfPs attr_num_rs (x78, ()) →
 (WfPs attr_num_ps ((a0.2.2.2.2.2.2.2.2.2.2.1.toNat : Int), ()) →
 attr_num_q (a0.2.2.2.2.2.2.2.2.2.2.1.toNat : Int) (fun x81 =>
 WfPs attr_num_rs (x81, ()) →
 (WfY attr_writer_usual_os (j14, ()) →
 WfPs attr_writer_usual_ps ((18 : Int), ([x78, x81] : List (List UInt8)), ()) →
 attr_writer_usual_q j14 (18 : Int) ([x78, x81] : List (List UInt8)) (fun ox830 =>
 WfY attr_writer_usual_os (ox830, ()) →
 WfPs attr_writer_usual_rs () →
 attr_Put_j3 a0 ox830 K)))))))
 (attr_Put_j3 a0 j14 K)
def attr_Put_j1 (four1 : Bool) (a0 : Ty1) (j14 : List UInt8) (K : List UInt8 -> Int -> Prop) : Prop :=
 IfB (!four1)
 (IfB a0.2.2.2.2.2.2.2.2.1
 (attr_Put_j2 a0 j14 (decide (((a0.2.2.2.2.2.2.2.2.2.1.toNat : Int) : Int) > 65535)) K)
 (attr_Put_j2 a0 j14 false K))
 (attr_Put_j2 a0 j14 false K)
def attr_Put_j0 (four1 : Bool) (a0 : Ty1) (ox460 : List UInt8) (j15 : Bool) (K : List UInt8 -> Int -> Prop) : Prop :=
 IfB j15
 ((WfPs path_Put_ps (a0.2.1, true, ()) →
 path_Put_q a0.2.1 true (fun x57r0 x57r1 =>
 WfPs path_Put_rs (x57r0, x57r1, ()) →
 (WfY attr_writer_usual_os (ox460, ()) →
 WfPs attr_writer_usual_ps ((17 : Int), ([x57r0] : List (List UInt8)), ()) →
 attr_writer_usual_q ox460 (17 : Int) ([x57r0] : List (List UInt8)) (fun ox630 =>
 WfY attr_writer_usual_os (ox630, ()) →
 WfPs attr_writer_usual_rs () →
 attr_Put_j1 four1 a0 ox630 K)))))
 (attr_Put_j1 four1 a0 ox460 K)
def attr_Put_q (a0 : Ty1) (four1 : Bool) (K : List UInt8 -> Int -> Prop) : Prop :=
 (WfPs attr_Check_ps (((a0.1, a0.2.1, (ofI .u32 (a0.2.2.1.toNat : Int)), a0.2.2.2.1, (ofI .u32 (a0.2.2.2.2.1.toNat : Int)), a0.2.2.2.2.2.1, (ofI .u32 (a0.2.2.2.2.2.2.1.toNat : Int)), a0.2.2.2.2.2.2.2.1, a0.2.2.2.2.2.2.2.2.1, (ofI .u32 (a0.2.2.2.2.2.2.2.2.2.1.toNat : Int)), (ofI .u32 (a0.2.2.2.2.2.2.2.2.2.2.1.toNat : Int)), a0.2.2.2.2.2.2.2.2.2.2.2.1, a0.2.2.2.2.2.2.2.2.2.2.2.2) : Ty1), ()) →
 attr_Check_q ((a0.1, a0.2.1, (ofI .u32 (a0.2.2.1.toNat : Int)), a0.2.2.2.1, (ofI .u32 (a0.2.2.2.2.1.toNat : Int)), a0.2.2.2.2.2.1, (ofI .u32 (a0.2.2.2.2.2.2.1.toNat : Int)), a0.2.2.2.2.2.2.2.1, a0.2.2.2.2.2.2.2.2.1, (ofI .u32 (a0.2.2.2.2.2.2.2.2.2.1.toNat : Int)), (ofI .u32 (a0.2.2.2.2.2.2.2.2.2.2.1.toNat : Int)), a0.2.2.2.2.2.2.2.2.2.2.2.1, a0.2.2.2.2.2.2.2.2.2.2.2.2) : Ty1) (fun x13 =>
 WfPs attr_Check_rs (x13, ()) →
 IfB ((x13 : Int) != 0)
 (K ([] : List UInt8) x13)
 ((WfPs path_Put_ps (a0.2.1, four1, ()) →
 path_Put_q a0.2.1 four1 (fun x23r0 x23r1 =>
 WfPs path_Put_rs (x23r0, x23r1, ()) →
 (WfY attr_writer_usual_os (([] : List UInt8), ()) →
 WfPs attr_writer_usual_ps ((1 : Int), ([([(ofI .u8 (IntKind.wrap .u8 a0.1))] : List UInt8)] : List (List UInt8)), ()) →
 attr_writer_usual_q ([] : List UInt8) (1 : Int) ([([(ofI .u8 (IntKind.wrap .u8 a0.1))] : List UInt8)] : List (List UInt8)) (fun ox320 =>
 WfY attr_writer_usual_os (ox320, ()) →
 WfPs attr_writer_usual_rs () →
 (WfY attr_writer_usual_os (ox320, ()) →
 WfPs attr_writer_usual_ps ((2 : Int), ([x23r0] : List (List UInt8)), ()) →
 attr_writer_usual_q ox320 (2 : Int) ([x23r0] : List (List UInt8)) (fun ox360 =>
 WfY attr_writer_usual_os (ox360, ()) →
 WfPs attr_writer_usual_rs () →
 (WfPs attr_num_ps ((a0.2.2.1.toNat : Int), ()) →
 attr_num_q (a0.2.2.1.toNat : Int) (fun x40 =>
 WfPs attr_num_rs (x40, ()) →
 (WfY attr_writer_usual_os (ox360, ()) →
 WfPs attr_writer_usual_ps ((3 : Int), ([x40] : List (List UInt8)), ()) →
 attr_writer_usual_q ox360 (3 : Int) ([x40] : List (List UInt8)) (fun ox420 =>
 WfY attr_writer_usual_os (ox420, ()) →
 WfPs attr_writer_usual_rs () →
 (WfY attr_writer_perhaps_os (ox420, ()) →
 WfPs attr_writer_perhaps_ps (((a0.1, a0.2.1, (ofI .u32 (a0.2.2.1.toNat : Int)), a0.2.2.2.1, (ofI .u32 (a0.2.2.2.2.1.toNat : Int)), a0.2.2.2.2.2.1, (ofI .u32 (a0.2.2.2.2.2.2.1.toNat : Int)), a0.2.2.2.2.2.2.2.1, a0.2.2.2.2.2.2.2.2.1, (ofI .u32 (a0.2.2.2.2.2.2.2.2.2.1.toNat : Int)), (ofI .u32 (a0.2.2.2.2.2.2.2.2.2.2.1.toNat : Int)), a0.2.2.2.2.2.2.2.2.2.2.2.1, a0.2.2.2.2.2.2.2.2.2.2.2.2) : Ty1), four1, ()) →
 attr_writer_perhaps_q ox420 ((a0.1, a0.2.1, (ofI .u32 (a0.2.2.1.toNat : Int)), a0.2.2.2.1, (ofI .u32 (a0.2.2.2.2.1.toNat : Int)), a0.2.2.2.2.2.1, (ofI .u32 (a0.2.2.2.2.2.2.1.toNat : Int)), a0.2.2.2.2.2.2.2.1, a0.2.2.2.2.2.2.2.2.1, (ofI .u32 (a0.2.2.2.2.2.2.2.2.2.1.toNat : Int)), (ofI .u32 (a0.2.2.2.2.2.2.2.2.2.2.1.toNat : Int)), a0.2.2.2.2.2.2.2.2.2.2.2.1, a0.2.2.2.2.2.2.2.2.2.2.2.2) : Ty1) four1 (fun ox460 =>
 WfY attr_writer_perhaps_os (ox460, ()) →
 WfPs attr_writer_perhaps_rs () →
 IfB (!four1)
 ((WfPs attr_great_ps (a0.2.1, ()) →
 attr_great_q a0.2.1 (fun x52 =>
 WfPs attr_great_rs (x52, ()) →
 attr_Put_j0 four1 a0 ox460 x52 K)))
 (attr_Put_j0 four1 a0 ox460 false K))))))))))))))))
noncomputable def tab_attr_Put : Tab := ⟨[(f_attr_Check, ct_attr_Check), (f_path_Put, ct_path_Put), (f_attr_writer_usual, ct_attr_writer_usual), (f_attr_num, ct_attr_num), (f_attr_writer_perhaps, ct_attr_writer_perhaps), (f_attr_great, ct_attr_great), (f_attr_writer_put, ct_attr_writer_put)], []⟩
abbrev attr_Put_L (x : PkTs attr_Put_ps) (K : PkTs attr_Put_rs -> Prop) : Prop := attr_Put_q x.1 x.2.1 (fun r0 r1 => K (r0, r1, ()))
theorem attr_Put_eq : attr_Put_L = fun x K => PCode Try.prog tab_attr_Put plan_attr_Put (bodyOf Try.f9) (parS attr_Put_ps x) (PRet Try.prog Try.f9.results.toList fun a st => outP attr_Put_rs st a K) := by kernel_rfl
theorem attr_Put_fq : FnQ Try.prog f_attr_Put attr_Put_ps attr_Put_rs attr_Put_L := (fnQ_of k_attr_Put (tab := tab_attr_Put) ⟨⟨ct_attr_Check_ok, ct_path_Put_ok, ct_attr_writer_usual_ok, ct_attr_num_ok, ct_attr_writer_perhaps_ok, ct_attr_great_ok, ct_attr_writer_put_ok, trivial⟩, trivial⟩ rfl).of_eq attr_Put_eq
noncomputable def ct_attr_Put : Ct := ctVal attr_Put_ps attr_Put_rs attr_Put_L
theorem ct_attr_Put_ok : SoundCt Try.prog f_attr_Put ct_attr_Put := ctVal_sound attr_Put_fq
def plan_base_SameBytes : PPlan := ⟨[], [], [], [], [], []⟩
theorem k_base_SameBytes : Known Try.prog f_base_SameBytes Try.f13 plan_base_SameBytes.plan (bodyOf Try.f13) := by refine ⟨Try.func13, ?_, ?_, ?_, ?_, ?_⟩ <;> kernel_rfl
abbrev base_SameBytes_ps : List Pk := [Pk.lst [Kd.int .u8], Pk.lst [Kd.int .u8]]
abbrev base_SameBytes_rs : List Pk := [Pk.bool]
def base_SameBytes_q (a0 : List UInt8) (b1 : List UInt8) (K : Bool -> Prop) : Prop :=
 K (a0 == b1)
noncomputable def tab_base_SameBytes : Tab := ⟨[], []⟩
abbrev base_SameBytes_L (x : PkTs base_SameBytes_ps) (K : PkTs base_SameBytes_rs -> Prop) : Prop := base_SameBytes_q x.1 x.2.1 (fun r0 => K (r0, ()))
theorem base_SameBytes_eq : base_SameBytes_L = fun x K => PCode Try.prog tab_base_SameBytes plan_base_SameBytes (bodyOf Try.f13) (parS base_SameBytes_ps x) (PRet Try.prog Try.f13.results.toList fun a st => outP base_SameBytes_rs st a K) := by kernel_rfl
theorem base_SameBytes_fq : FnQ Try.prog f_base_SameBytes base_SameBytes_ps base_SameBytes_rs base_SameBytes_L := (fnQ_of k_base_SameBytes (tab := tab_base_SameBytes) ⟨trivial, trivial⟩ rfl).of_eq base_SameBytes_eq
noncomputable def ct_base_SameBytes : Ct := ctRd base_SameBytes_ps base_SameBytes_rs base_SameBytes_L
theorem ct_base_SameBytes_ok : SoundCt Try.prog f_base_SameBytes ct_base_SameBytes := ctRd_sound base_SameBytes_fq
def plan_law20_works : PPlan := ⟨[], [], [], [], [], []⟩
theorem k_law20_works : Known Try.prog f_law20_works Try.f14 plan_law20_works.plan (bodyOf Try.f14) := by refine ⟨Try.func14, ?_, ?_, ?_, ?_, ?_⟩ <;> kernel_rfl
abbrev law20_works_ps : List Pk := []
abbrev law20_works_rs : List Pk := [Pk.bool]
def law20_works_q  (K : Bool -> Prop) : Prop :=
 (WfPs attr_Put_ps (((0, ([(false, ([(ofI .u32 65001)] : List UInt32))] : List (Bool × List UInt32)), (ofI .u32 167772161), false, (ofI .u32 0), false, (ofI .u32 0), false, false, (ofI .u32 0), (ofI .u32 0), ([] : List UInt32), ([] : List (Int × List UInt8))) : Ty1), false, ()) →
 attr_Put_q ((0, ([(false, ([(ofI .u32 65001)] : List UInt32))] : List (Bool × List UInt32)), (ofI .u32 167772161), false, (ofI .u32 0), false, (ofI .u32 0), false, false, (ofI .u32 0), (ofI .u32 0), ([] : List UInt32), ([] : List (Int × List UInt8))) : Ty1) false (fun x8r0 x8r1 =>
 WfPs attr_Put_rs (x8r0, x8r1, ()) →
 IfB ((x8r1 : Int) == 0)
 ((WfPs base_SameBytes_ps (x8r0, ([(ofI .u8 64), (ofI .u8 1), (ofI .u8 1), (ofI .u8 0), (ofI .u8 64), (ofI .u8 2), (ofI .u8 4), (ofI .u8 2), (ofI .u8 1), (ofI .u8 253), (ofI .u8 233), (ofI .u8 64), (ofI .u8 3), (ofI .u8 4), (ofI .u8 10), (ofI .u8 0), (ofI .u8 0), (ofI .u8 1)] : List UInt8), ()) →
 base_SameBytes_q x8r0 ([(ofI .u8 64), (ofI .u8 1), (ofI .u8 1), (ofI .u8 0), (ofI .u8 64), (ofI .u8 2), (ofI .u8 4), (ofI .u8 2), (ofI .u8 1), (ofI .u8 253), (ofI .u8 233), (ofI .u8 64), (ofI .u8 3), (ofI .u8 4), (ofI .u8 10), (ofI .u8 0), (ofI .u8 0), (ofI .u8 1)] : List UInt8) (fun x16 =>
 WfPs base_SameBytes_rs (x16, ()) →
 K x16)))
 (K false)))
noncomputable def tab_law20_works : Tab := ⟨[(f_attr_Put, ct_attr_Put), (f_base_SameBytes, ct_base_SameBytes)], []⟩
abbrev law20_works_L (x : PkTs law20_works_ps) (K : PkTs law20_works_rs -> Prop) : Prop := law20_works_q  (fun r0 => K (r0, ()))
theorem law20_works_eq : law20_works_L = fun x K => PCode Try.prog tab_law20_works plan_law20_works (bodyOf Try.f14) (parS law20_works_ps x) (PRet Try.prog Try.f14.results.toList fun a st => outP law20_works_rs st a K) := by kernel_rfl
theorem law20_works_fq : FnQ Try.prog f_law20_works law20_works_ps law20_works_rs law20_works_L := (fnQ_of k_law20_works (tab := tab_law20_works) ⟨⟨ct_attr_Put_ok, ct_base_SameBytes_ok, trivial⟩, trivial⟩ rfl).of_eq law20_works_eq
noncomputable def ct_law20_works : Ct := ctRd law20_works_ps law20_works_rs law20_works_L
theorem ct_law20_works_ok : SoundCt Try.prog f_law20_works ct_law20_works := ctRd_sound law20_works_fq
def plan_slices_Chunkasl_byte_byte : PPlan := ⟨[], [], [], [], [], []⟩
theorem k_slices_Chunkasl_byte_byte : Known Try.prog f_slices_Chunkasl_byte_byte Try.f85 plan_slices_Chunkasl_byte_byte.plan (bodyOf Try.f85) := by refine ⟨Try.func85, ?_, ?_, ?_, ?_, ?_⟩ <;> kernel_rfl
noncomputable def tab_slices_Chunkasl_byte_byte : Tab := ⟨[], []⟩
noncomputable def ct_slices_Chunkasl_byte_byte : Ct := ctInl Try.prog tab_slices_Chunkasl_byte_byte plan_slices_Chunkasl_byte_byte (bodyOf Try.f85) Try.f85.ntmps Try.f85.results.toList
theorem ct_slices_Chunkasl_byte_byte_ok : SoundCt Try.prog f_slices_Chunkasl_byte_byte ct_slices_Chunkasl_byte_byte := ctInl_sound k_slices_Chunkasl_byte_byte ⟨trivial, trivial⟩
def pl_path_Read_5 : PLoop := ⟨[(0, PK.lst [Kd.int .u8]), (7, PK.row T_api_Segment [Kd.bool, Kd.lst [Kd.int .u32]])], [6], []⟩
def pl_path_Read_13 : PLoop := ⟨[(11, PK.int .u32), (65, PK.int .i64)], [8, 63, 64], [(8, [PK.bool, PK.row T_uint32 [Kd.int .u32]])]⟩
def pl_path_Read_4000010 : PLoop := ⟨[], [0, 6, 7, 8, 9], [(8, [PK.bool, PK.row T_uint32 [Kd.int .u32]])]⟩
def plan_path_Read : PPlan := ⟨[(18, [0, 1, 4, 5, 6, 2, 3, 7, 8], [])], [(5, pl_path_Read_5), (13, pl_path_Read_13), (4000010, pl_path_Read_4000010)], [], [], [], []⟩
theorem k_path_Read : Known Try.prog f_path_Read Try.f76 plan_path_Read.plan (bodyOf Try.f76) := by refine ⟨Try.func76, ?_, ?_, ?_, ?_, ?_⟩ <;> kernel_rfl
abbrev path_Read_ps : List Pk := [Pk.lst [Kd.int .u8], Pk.bool]
abbrev path_Read_rs : List Pk := [Pk.lst [Kd.bool, Kd.lst [Kd.int .u32]], Pk.int .i64]
def path_Read_j2  (K : List (Bool × List UInt32) -> Int -> Prop) : Prop :=
 K ([] : List (Bool × List UInt32)) 7
def path_Read_e4000010 (b0_1 : List UInt8) (j1 : Int) (p7 : List (Bool × List UInt32)) (x46 : UInt8) (x51 : UInt8) (next5 : (List UInt8 × List (Bool × List UInt32) × Unit) -> Prop) (c0 : Bool) (c1 : List UInt32) (K : List (Bool × List UInt32) -> Int -> Prop) : Prop :=
 (0 : Int) <= (IntKind.wrap .i64 (2 + (IntKind.wrap .i64 ((IntKind.wrap .i64 (x51.toNat : Int)) * j1)))) ∧ (IntKind.wrap .i64 (2 + (IntKind.wrap .i64 ((IntKind.wrap .i64 (x51.toNat : Int)) * j1)))) <= (b0_1.length : Int) ∧
 p7.length + ([(c0, c1)] : List (Bool × List UInt32)).length <= 4398046511008 ∧
 next5 ((b0_1.drop ((IntKind.wrap .i64 (2 + (IntKind.wrap .i64 ((IntKind.wrap .i64 (x51.toNat : Int)) * j1)))).toNat)), (p7 ++ ([(c0, c1)] : List (Bool × List UInt32))), ())
def path_Read_l13 (c0_1 : Bool) (x62 : List UInt8) (next5 : (List UInt8 × List (Bool × List UInt32) × Unit) -> Prop) (next4000010 : (Bool × List UInt32 × Unit) -> Prop) (as11 : Int) (x65 : Int) (c0_2 : Bool) (c1_2 : List UInt32) (next13 : (Int × Int × Bool × List UInt32 × Unit) -> Prop) (K : List (Bool × List UInt32) -> Int -> Prop) : Prop :=
 IfB (decide ((x65 : Int) < (x62.length : Int)))
 ((0 : Int) <= x65 ∧ AtN x62 x65.toNat fun x67 =>
 WfT ks_int_u8 x67 →
 (0 : Int) <= 8 ∧
 next13 ((bitsOr .u32 (IntKind.wrap .u32 (as11 * 256)) (IntKind.wrap .u32 (x67.toNat : Int))), (IntKind.wrap .i64 (x65 + 1)), c0_2, c1_2, ()))
 (c1_2.length + ([(ofI .u32 as11)] : List UInt32).length <= 35184372088736 ∧
 next4000010 (c0_2, (c1_2 ++ ([(ofI .u32 as11)] : List UInt32)), ()))
def path_Read_l4000010 (b0_1 : List UInt8) (j1 : Int) (p7 : List (Bool × List UInt32)) (x46 : UInt8) (x51 : UInt8) (next5 : (List UInt8 × List (Bool × List UInt32) × Unit) -> Prop) (c0_1 : Bool) (c1_1 : List UInt32) (x62 : List UInt8) (next4000010 : (Bool × List UInt32 × Unit) -> Prop) (K : List (Bool × List UInt32) -> Int -> Prop) : Prop :=
 LoopJ (Int × Int × Bool × List UInt32 × Unit) ((0 : Int), (0 : Int), c0_1, c1_1, ()) fun y next =>
 WfY pl_path_Read_13.kinds y →
 path_Read_l13 c0_1 x62 next5 next4000010 y.1 y.2.1 y.2.2.1 y.2.2.2.1 next K
def path_Read_j1 (b0_1 : List UInt8) (j1 : Int) (p7 : List (Bool × List UInt32)) (next5 : (List UInt8 × List (Bool × List UInt32) × Unit) -> Prop) (j3 : Bool) (K : List (Bool × List UInt32) -> Int -> Prop) : Prop :=
 IfB j3
 (path_Read_j2 K)
 ((0 : Int) <= 0 ∧ AtN b0_1 0 fun x46 =>
 WfT ks_int_u8 x46 →
 (0 : Int) <= 1 ∧ AtN b0_1 1 fun x51 =>
 WfT ks_int_u8 x51 →
 (0 : Int) <= (IntKind.wrap .i64 (2 + (IntKind.wrap .i64 ((IntKind.wrap .i64 (x51.toNat : Int)) * j1)))) ∧ (IntKind.wrap .i64 (2 + (IntKind.wrap .i64 ((IntKind.wrap .i64 (x51.toNat : Int)) * j1)))) <= (b0_1.length : Int) ∧
 (0 : Int) <= 2 ∧ 2 <= ((IntKind.wrap .i64 (2 + (IntKind.wrap .i64 ((IntKind.wrap .i64 (x51.toNat : Int)) * j1)))).toNat : Int) ∧
 IfB (decide ((j1 : Int) < 1))
 (False)
 (it_chunk.pre (((b0_1.take ((IntKind.wrap .i64 (2 + (IntKind.wrap .i64 ((IntKind.wrap .i64 (x51.toNat : Int)) * j1)))).toNat)).drop 2), j1, ()) ∧
 EachJ (fun (y : (Bool × List UInt32 × Unit)) => WfY pl_path_Read_4000010.kinds y -> path_Read_e4000010 b0_1 j1 p7 x46 x51 next5 y.1 y.2.1 K)
 (fun (y : (Bool × List UInt32 × Unit)) (x : (List UInt8 × Unit)) (next : (Bool × List UInt32 × Unit) -> Prop) => WfY pl_path_Read_4000010.kinds y -> WfPs it_chunk.ps x -> path_Read_l4000010 b0_1 j1 p7 x46 x51 next5 y.1 y.2.1 x.1 next K) (it_chunk.xs (((b0_1.take ((IntKind.wrap .i64 (2 + (IntKind.wrap .i64 ((IntKind.wrap .i64 (x51.toNat : Int)) * j1)))).toNat)).drop 2), j1, ())) ((((x46.toNat : Int) : Int) == 1), ([] : List UInt32), ())))
def path_Read_l5 (j1 : Int) (b0_1 : List UInt8) (p7 : List (Bool × List UInt32)) (next5 : (List UInt8 × List (Bool × List UInt32) × Unit) -> Prop) (K : List (Bool × List UInt32) -> Int -> Prop) : Prop :=
 IfB (decide (((b0_1.length : Int) : Int) > 0))
 (IfB (decide (((b0_1.length : Int) : Int) < 2))
 (path_Read_j1 b0_1 j1 p7 next5 true K)
 ((0 : Int) <= 0 ∧ AtN b0_1 0 fun x23 =>
 WfT ks_int_u8 x23 →
 IfB (((x23.toNat : Int) : Int) != 1)
 ((0 : Int) <= 0 ∧ AtN b0_1 0 fun x28 =>
 WfT ks_int_u8 x28 →
 IfB (((x28.toNat : Int) : Int) != 2)
 (path_Read_j1 b0_1 j1 p7 next5 true K)
 ((0 : Int) <= 1 ∧ AtN b0_1 1 fun x35 =>
 WfT ks_int_u8 x35 →
 path_Read_j1 b0_1 j1 p7 next5 (decide (((IntKind.wrap .i64 ((IntKind.wrap .i64 (x35.toNat : Int)) * j1)) : Int) > (IntKind.wrap .i64 ((b0_1.length : Int) - 2)))) K))
 ((0 : Int) <= 1 ∧ AtN b0_1 1 fun x35_1 =>
 WfT ks_int_u8 x35_1 →
 path_Read_j1 b0_1 j1 p7 next5 (decide (((IntKind.wrap .i64 ((IntKind.wrap .i64 (x35_1.toNat : Int)) * j1)) : Int) > (IntKind.wrap .i64 ((b0_1.length : Int) - 2)))) K)))
 ((WfPs path_Check_ps (p7, ()) →
 path_Check_q p7 (fun x89 =>
 WfPs path_Check_rs (x89, ()) →
 IfB ((x89 : Int) == 0)
 (K p7 0)
 (K ([] : List (Bool × List UInt32)) 7))))
def path_Read_j0 (b0 : List UInt8) (j1 : Int) (K : List (Bool × List UInt32) -> Int -> Prop) : Prop :=
 LoopJ (List UInt8 × List (Bool × List UInt32) × Unit) (b0, ([] : List (Bool × List UInt32)), ()) fun y next =>
 WfY pl_path_Read_5.kinds y →
 path_Read_l5 j1 y.1 y.2.1 next K
def path_Read_q (b0 : List UInt8) (four1 : Bool) (K : List (Bool × List UInt32) -> Int -> Prop) : Prop :=
 IfB four1
 (path_Read_j0 b0 4 K)
 (path_Read_j0 b0 2 K)
noncomputable def tab_path_Read : Tab := ⟨[(f_path_Check, ct_path_Check), (f_slices_Chunkasl_byte_byte, ct_slices_Chunkasl_byte_byte)], [(f_slices_Chunkasl_byte_byte_1, it_chunk)]⟩
abbrev path_Read_L (x : PkTs path_Read_ps) (K : PkTs path_Read_rs -> Prop) : Prop := path_Read_q x.1 x.2.1 (fun r0 r1 => K (r0, r1, ()))
theorem path_Read_eq : path_Read_L = fun x K => PCode Try.prog tab_path_Read plan_path_Read (bodyOf Try.f76) (parS path_Read_ps x) (PRet Try.prog Try.f76.results.toList fun a st => outP path_Read_rs st a K) := by kernel_rfl
theorem path_Read_fq : FnQ Try.prog f_path_Read path_Read_ps path_Read_rs path_Read_L := (fnQ_of k_path_Read (tab := tab_path_Read) ⟨⟨ct_path_Check_ok, ct_slices_Chunkasl_byte_byte_ok, trivial⟩, ⟨it_chunk_ok, trivial⟩⟩ rfl).of_eq path_Read_eq
def pl_path_Len_3 : PLoop := ⟨[(3, PK.int .i64), (8, PK.int .i64)], [6, 7], []⟩
def plan_path_Len : PPlan := ⟨[], [(3, pl_path_Len_3)], [], [], [], []⟩
theorem k_path_Len : Known Try.prog f_path_Len Try.f78 plan_path_Len.plan (bodyOf Try.f78) := by refine ⟨Try.func78, ?_, ?_, ?_, ?_, ?_⟩ <;> kernel_rfl
abbrev path_Len_ps : List Pk := [Pk.lst [Kd.bool, Kd.lst [Kd.int .u32]]]
abbrev path_Len_rs : List Pk := [Pk.int .i64]
def path_Len_j0 (p0 : List (Bool × List UInt32)) (x8 : Int) (next3 : (Int × Int × Unit) -> Prop) (j0 : Int) (K : Int -> Prop) : Prop :=
 next3 (j0, (IntKind.wrap .i64 (x8 + 1)), ())
def path_Len_l3 (p0 : List (Bool × List UInt32)) (n3 : Int) (x8 : Int) (next3 : (Int × Int × Unit) -> Prop) (K : Int -> Prop) : Prop :=
 IfB (decide ((x8 : Int) < (p0.length : Int)))
 ((0 : Int) <= x8 ∧ AtN p0 x8.toNat fun x10 =>
 WfT ks_bool_lst_int_u32 x10 →
 IfB x10.1
 (path_Len_j0 p0 x8 next3 (IntKind.wrap .i64 (n3 + 1)) K)
 (path_Len_j0 p0 x8 next3 (IntKind.wrap .i64 (n3 + (x10.2.length : Int))) K))
 (K n3)
def path_Len_q (p0 : List (Bool × List UInt32)) (K : Int -> Prop) : Prop :=
 LoopJ (Int × Int × Unit) ((0 : Int), (0 : Int), ()) fun y next =>
 WfY pl_path_Len_3.kinds y →
 path_Len_l3 p0 y.1 y.2.1 next K
noncomputable def tab_path_Len : Tab := ⟨[], []⟩
abbrev path_Len_L (x : PkTs path_Len_ps) (K : PkTs path_Len_rs -> Prop) : Prop := path_Len_q x.1 (fun r0 => K (r0, ()))
theorem path_Len_eq : path_Len_L = fun x K => PCode Try.prog tab_path_Len plan_path_Len (bodyOf Try.f78) (parS path_Len_ps x) (PRet Try.prog Try.f78.results.toList fun a st => outP path_Len_rs st a K) := by kernel_rfl
theorem path_Len_fq : FnQ Try.prog f_path_Len path_Len_ps path_Len_rs path_Len_L := (fnQ_of k_path_Len (tab := tab_path_Len) ⟨trivial, trivial⟩ rfl).of_eq path_Len_eq
noncomputable def ct_path_Len : Ct := ctRd path_Len_ps path_Len_rs path_Len_L
theorem ct_path_Len_ok : SoundCt Try.prog f_path_Len ct_path_Len := ctRd_sound path_Len_fq
def plan_slices_Cloneasl_uint32_uint32 : PPlan := ⟨[], [], [], [], [], []⟩
theorem k_slices_Cloneasl_uint32_uint32 : Known Try.prog f_slices_Cloneasl_uint32_uint32 Try.f38 plan_slices_Cloneasl_uint32_uint32.plan (bodyOf Try.f38) := by refine ⟨Try.func38, ?_, ?_, ?_, ?_, ?_⟩ <;> kernel_rfl
abbrev slices_Cloneasl_uint32_uint32_ps : List Pk := [Pk.lst [Kd.int .u32]]
abbrev slices_Cloneasl_uint32_uint32_rs : List Pk := [Pk.own T_uint32 [Kd.int .u32]]
def slices_Cloneasl_uint32_uint32_q (s0 : List UInt32) (K : List UInt32 -> Prop) : Prop :=
 ∀ isnil : Bool, (isnil = true -> s0.length = 0) →
 IfB isnil
 (K ([] : List UInt32))
 (([] : List UInt32).length + s0.length <= 35184372088736 ∧
 K (([] : List UInt32) ++ s0))
noncomputable def tab_slices_Cloneasl_uint32_uint32 : Tab := ⟨[], []⟩
abbrev slices_Cloneasl_uint32_uint32_L (x : PkTs slices_Cloneasl_uint32_uint32_ps) (K : PkTs slices_Cloneasl_uint32_uint32_rs -> Prop) : Prop := slices_Cloneasl_uint32_uint32_q x.1 (fun r0 => K (r0, ()))
theorem slices_Cloneasl_uint32_uint32_eq : slices_Cloneasl_uint32_uint32_L = fun x K => PCode Try.prog tab_slices_Cloneasl_uint32_uint32 plan_slices_Cloneasl_uint32_uint32 (bodyOf Try.f38) (parS slices_Cloneasl_uint32_uint32_ps x) (PRet Try.prog Try.f38.results.toList fun a st => outP slices_Cloneasl_uint32_uint32_rs st a K) := by kernel_rfl
theorem slices_Cloneasl_uint32_uint32_fq : FnQ Try.prog f_slices_Cloneasl_uint32_uint32 slices_Cloneasl_uint32_uint32_ps slices_Cloneasl_uint32_uint32_rs slices_Cloneasl_uint32_uint32_L := (fnQ_of k_slices_Cloneasl_uint32_uint32 (tab := tab_slices_Cloneasl_uint32_uint32) ⟨trivial, trivial⟩ rfl).of_eq slices_Cloneasl_uint32_uint32_eq
noncomputable def ct_slices_Cloneasl_uint32_uint32 : Ct := ctVal slices_Cloneasl_uint32_uint32_ps slices_Cloneasl_uint32_uint32_rs slices_Cloneasl_uint32_uint32_L
theorem ct_slices_Cloneasl_uint32_uint32_ok : SoundCt Try.prog f_slices_Cloneasl_uint32_uint32 ct_slices_Cloneasl_uint32_uint32 := ctVal_sound slices_Cloneasl_uint32_uint32_fq
def pl_path_clone_3 : PLoop := ⟨[(3, PK.row T_api_Segment [Kd.bool, Kd.lst [Kd.int .u32]]), (11, PK.int .i64)], [9, 10], []⟩
def plan_path_clone : PPlan := ⟨[(5, [0, 1, 2, 3, 4, 5, 6, 7, 8, 9], [17])], [(3, pl_path_clone_3)], [], [], [], []⟩
theorem k_path_clone : Known Try.prog f_path_clone Try.f79 plan_path_clone.plan (bodyOf Try.f79) := by refine ⟨Try.func79, ?_, ?_, ?_, ?_, ?_⟩ <;> kernel_rfl
abbrev path_clone_ps : List Pk := [Pk.lst [Kd.bool, Kd.lst [Kd.int .u32]]]
abbrev path_clone_rs : List Pk := [Pk.own T_api_Segment [Kd.bool, Kd.lst [Kd.int .u32]]]
def path_clone_l3 (p0 : List (Bool × List UInt32)) (out3 : List (Bool × List UInt32)) (x11 : Int) (next3 : (List (Bool × List UInt32) × Int × Unit) -> Prop) (K : List (Bool × List UInt32) -> Prop) : Prop :=
 IfB (decide ((x11 : Int) < (p0.length : Int)))
 ((0 : Int) <= x11 ∧ AtN p0 x11.toNat fun x13 =>
 WfT ks_bool_lst_int_u32 x13 →
 (WfPs slices_Cloneasl_uint32_uint32_ps (x13.2, ()) →
 slices_Cloneasl_uint32_uint32_q x13.2 (fun x20 =>
 WfPs slices_Cloneasl_uint32_uint32_rs (x20, ()) →
 out3.length + ([(x13.1, x20)] : List (Bool × List UInt32)).length <= 4398046511008 ∧
 next3 ((out3 ++ ([(x13.1, x20)] : List (Bool × List UInt32))), (IntKind.wrap .i64 (x11 + 1)), ()))))
 (K out3)
def path_clone_q (p0 : List (Bool × List UInt32)) (K : List (Bool × List UInt32) -> Prop) : Prop :=
 (0 : Int) <= 0 ∧ (0 : Int) <= (p0.length : Int) ∧ ((p0.length : Int) : Int) <= 1000000000 ∧
 LoopJ (List (Bool × List UInt32) × Int × Unit) ((List.replicate 0 ((false, ([] : List UInt32)) : Bool × List UInt32)), (0 : Int), ()) fun y next =>
 WfY pl_path_clone_3.kinds y →
 path_clone_l3 p0 y.1 y.2.1 next K
noncomputable def tab_path_clone : Tab := ⟨[(f_slices_Cloneasl_uint32_uint32, ct_slices_Cloneasl_uint32_uint32)], []⟩
abbrev path_clone_L (x : PkTs path_clone_ps) (K : PkTs path_clone_rs -> Prop) : Prop := path_clone_q x.1 (fun r0 => K (r0, ()))
theorem path_clone_eq : path_clone_L = fun x K => PCode Try.prog tab_path_clone plan_path_clone (bodyOf Try.f79) (parS path_clone_ps x) (PRet Try.prog Try.f79.results.toList fun a st => outP path_clone_rs st a K) := by kernel_rfl
theorem path_clone_fq : FnQ Try.prog f_path_clone path_clone_ps path_clone_rs path_clone_L := (fnQ_of k_path_clone (tab := tab_path_clone) ⟨⟨ct_slices_Cloneasl_uint32_uint32_ok, trivial⟩, trivial⟩ rfl).of_eq path_clone_eq
noncomputable def ct_path_clone : Ct := ctVal path_clone_ps path_clone_rs path_clone_L
theorem ct_path_clone_ok : SoundCt Try.prog f_path_clone ct_path_clone := ctVal_sound path_clone_fq
def pl_path_front_3 : PLoop := ⟨[(1, PK.int .i64), (5, PK.row T_api_Segment [Kd.bool, Kd.lst [Kd.int .u32]]), (11, PK.int .i64)], [9, 10], []⟩
def plan_path_front : PPlan := ⟨[], [(3, pl_path_front_3)], [], [], [], []⟩
theorem k_path_front : Known Try.prog f_path_front Try.f80 plan_path_front.plan (bodyOf Try.f80) := by refine ⟨Try.func80, ?_, ?_, ?_, ?_, ?_⟩ <;> kernel_rfl
abbrev path_front_ps : List Pk := [Pk.lst [Kd.bool, Kd.lst [Kd.int .u32]], Pk.int .i64]
abbrev path_front_rs : List Pk := [Pk.own T_api_Segment [Kd.bool, Kd.lst [Kd.int .u32]]]
def path_front_j0 (out5 : List (Bool × List UInt32)) (x14 : Bool × List UInt32) (x9 : List (Bool × List UInt32)) (x11 : Int) (next3 : (Int × List (Bool × List UInt32) × Int × Unit) -> Prop) (j0 : Int) (j3 : List UInt32) (K : List (Bool × List UInt32) -> Prop) : Prop :=
 out5.length + ([(x14.1, j3)] : List (Bool × List UInt32)).length <= 4398046511008 ∧
 next3 (j0, (out5 ++ ([(x14.1, j3)] : List (Bool × List UInt32))), (IntKind.wrap .i64 (x11 + 1)), ())
def path_front_l3 (x9 : List (Bool × List UInt32)) (n1_1 : Int) (out5 : List (Bool × List UInt32)) (x11 : Int) (next3 : (Int × List (Bool × List UInt32) × Int × Unit) -> Prop) (K : List (Bool × List UInt32) -> Prop) : Prop :=
 IfB (decide ((x11 : Int) < (x9.length : Int)))
 ((0 : Int) <= x11 ∧ x11 < (x9.length : Int) ∧
 AtN x9 x11.toNat fun x14 =>
 WfT ks_bool_lst_int_u32 x14 →
 IfB (decide ((n1_1 : Int) <= 0))
 (K out5)
 (IfB x14.1
 (path_front_j0 out5 x14 x9 x11 next3 (IntKind.wrap .i64 (n1_1 - 1)) x14.2 K)
 ((0 : Int) <= (min n1_1 (x14.2.length : Int)) ∧ (min n1_1 (x14.2.length : Int)) <= (x14.2.length : Int) ∧
 path_front_j0 out5 x14 x9 x11 next3 (IntKind.wrap .i64 (n1_1 - ((x14.2.take ((min n1_1 (x14.2.length : Int)).toNat)).length : Int))) (x14.2.take ((min n1_1 (x14.2.length : Int)).toNat)) K)))
 (K out5)
def path_front_q (p0 : List (Bool × List UInt32)) (n1 : Int) (K : List (Bool × List UInt32) -> Prop) : Prop :=
 (WfPs path_clone_ps (p0, ()) →
 path_clone_q p0 (fun x9 =>
 WfPs path_clone_rs (x9, ()) →
 LoopJ (Int × List (Bool × List UInt32) × Int × Unit) (n1, ([] : List (Bool × List UInt32)), (0 : Int), ()) fun y next =>
 WfY pl_path_front_3.kinds y →
 path_front_l3 x9 y.1 y.2.1 y.2.2.1 next K))
noncomputable def tab_path_front : Tab := ⟨[(f_path_clone, ct_path_clone)], []⟩
abbrev path_front_L (x : PkTs path_front_ps) (K : PkTs path_front_rs -> Prop) : Prop := path_front_q x.1 x.2.1 (fun r0 => K (r0, ()))
theorem path_front_eq : path_front_L = fun x K => PCode Try.prog tab_path_front plan_path_front (bodyOf Try.f80) (parS path_front_ps x) (PRet Try.prog Try.f80.results.toList fun a st => outP path_front_rs st a K) := by kernel_rfl
theorem path_front_fq : FnQ Try.prog f_path_front path_front_ps path_front_rs path_front_L := (fnQ_of k_path_front (tab := tab_path_front) ⟨⟨ct_path_clone_ok, trivial⟩, trivial⟩ rfl).of_eq path_front_eq
noncomputable def ct_path_front : Ct := ctVal path_front_ps path_front_rs path_front_L
theorem ct_path_front_ok : SoundCt Try.prog f_path_front ct_path_front := ctVal_sound path_front_fq
def plan_slices_Growasl_uint32_uint32_at_nil : PPlan := ⟨[], [], [25], [], [], []⟩
theorem k_slices_Growasl_uint32_uint32_at_nil : Known Try.prog f_slices_Growasl_uint32_uint32 Try.f86 plan_slices_Growasl_uint32_uint32_at_nil.plan (bodyOf Try.f86) := by refine ⟨Try.func86, ?_, ?_, ?_, ?_, ?_⟩ <;> kernel_rfl
abbrev slices_Growasl_uint32_uint32_at_nil_ps : List Pk := [Pk.nil, Pk.int .i64]
abbrev slices_Growasl_uint32_uint32_at_nil_rs : List Pk := [Pk.own T_uint32 [Kd.int .u32]]
def slices_Growasl_uint32_uint32_at_nil_q (n1 : Int) (K : List UInt32 -> Prop) : Prop :=
 IfB (decide ((n1 : Int) < 0))
 (False)
 (IfB (decide (((IntKind.wrap .i64 (n1 - (IntKind.wrap .i64 (0 - 0)))) : Int) > 0))
 ((0 : Int) <= 0 ∧ 0 <= (0 : Int) ∧
 (0 : Int) < (IntKind.wrap .i64 (n1 - (IntKind.wrap .i64 (0 - 0)))) ∧ (IntKind.wrap .i64 (n1 - (IntKind.wrap .i64 (0 - 0)))) <= 1000000000 ∧
 (0 : Int) <= 0 ∧ 0 <= ((List.replicate (IntKind.wrap .i64 (n1 - (IntKind.wrap .i64 (0 - 0)))).toNat ((ofI .u32 0) : UInt32)).length : Int) ∧
 K ((List.replicate (IntKind.wrap .i64 (n1 - (IntKind.wrap .i64 (0 - 0)))).toNat ((ofI .u32 0) : UInt32)).take 0))
 (K ([] : List UInt32)))
noncomputable def tab_slices_Growasl_uint32_uint32_at_nil : Tab := ⟨[], []⟩
abbrev slices_Growasl_uint32_uint32_at_nil_L (x : PkTs slices_Growasl_uint32_uint32_at_nil_ps) (K : PkTs slices_Growasl_uint32_uint32_at_nil_rs -> Prop) : Prop := slices_Growasl_uint32_uint32_at_nil_q x.2.1 (fun r0 => K (r0, ()))
theorem slices_Growasl_uint32_uint32_at_nil_eq : slices_Growasl_uint32_uint32_at_nil_L = fun x K => PCode Try.prog tab_slices_Growasl_uint32_uint32_at_nil plan_slices_Growasl_uint32_uint32_at_nil (bodyOf Try.f86) (parS slices_Growasl_uint32_uint32_at_nil_ps x) (PRet Try.prog Try.f86.results.toList fun a st => outP slices_Growasl_uint32_uint32_at_nil_rs st a K) := by kernel_rfl
theorem slices_Growasl_uint32_uint32_at_nil_fq : FnQ Try.prog f_slices_Growasl_uint32_uint32 slices_Growasl_uint32_uint32_at_nil_ps slices_Growasl_uint32_uint32_at_nil_rs slices_Growasl_uint32_uint32_at_nil_L := (fnQ_of k_slices_Growasl_uint32_uint32_at_nil (tab := tab_slices_Growasl_uint32_uint32_at_nil) ⟨trivial, trivial⟩ rfl).of_eq slices_Growasl_uint32_uint32_at_nil_eq
noncomputable def ct_slices_Growasl_uint32_uint32_at_nil : Ct := ctVal slices_Growasl_uint32_uint32_at_nil_ps slices_Growasl_uint32_uint32_at_nil_rs slices_Growasl_uint32_uint32_at_nil_L
theorem ct_slices_Growasl_uint32_uint32_at_nil_ok : SoundCt Try.prog f_slices_Growasl_uint32_uint32 ct_slices_Growasl_uint32_uint32_at_nil := ctVal_sound slices_Growasl_uint32_uint32_at_nil_fq
def pl_slices_Concatasl_uint32_uint32_3 : PLoop := ⟨[(3, PK.int .i64), (11, PK.int .i64)], [0, 9, 10], []⟩
def pl_slices_Concatasl_uint32_uint32_11 : PLoop := ⟨[(6, PK.row T_uint32 [Kd.int .u32]), (27, PK.int .i64)], [25, 26], []⟩
def plan_slices_Concatasl_uint32_uint32 : PPlan := ⟨[], [(3, pl_slices_Concatasl_uint32_uint32_3), (11, pl_slices_Concatasl_uint32_uint32_11)], [], [], [], []⟩
theorem k_slices_Concatasl_uint32_uint32 : Known Try.prog f_slices_Concatasl_uint32_uint32 Try.f81 plan_slices_Concatasl_uint32_uint32.plan (bodyOf Try.f81) := by refine ⟨Try.func81, ?_, ?_, ?_, ?_, ?_⟩ <;> kernel_rfl
abbrev slices_Concatasl_uint32_uint32_ps : List Pk := [Pk.lst [Kd.lst [Kd.int .u32]]]
abbrev slices_Concatasl_uint32_uint32_rs : List Pk := [Pk.own T_uint32 [Kd.int .u32]]
def slices_Concatasl_uint32_uint32_l11 (slices0 : List (List UInt32)) (newslice6 : List UInt32) (x27 : Int) (next11 : (List UInt32 × Int × Unit) -> Prop) (K : List UInt32 -> Prop) : Prop :=
 IfB (decide ((x27 : Int) < (slices0.length : Int)))
 ((0 : Int) <= x27 ∧ AtN slices0 x27.toNat fun x29 =>
 WfT ks_lst_int_u32 x29 →
 newslice6.length + x29.length <= 35184372088736 ∧
 next11 ((newslice6 ++ x29), (IntKind.wrap .i64 (x27 + 1)), ()))
 (K newslice6)
def slices_Concatasl_uint32_uint32_l3 (slices0 : List (List UInt32)) (size3 : Int) (x11 : Int) (next3 : (Int × Int × Unit) -> Prop) (K : List UInt32 -> Prop) : Prop :=
 IfB (decide ((x11 : Int) < (slices0.length : Int)))
 ((0 : Int) <= x11 ∧ AtN slices0 x11.toNat fun x13 =>
 WfT ks_lst_int_u32 x13 →
 IfB (decide (((IntKind.wrap .i64 (size3 + (x13.length : Int))) : Int) < 0))
 (False)
 (next3 ((IntKind.wrap .i64 (size3 + (x13.length : Int))), (IntKind.wrap .i64 (x11 + 1)), ())))
 ((WfPs slices_Growasl_uint32_uint32_at_nil_ps ((), size3, ()) →
 slices_Growasl_uint32_uint32_at_nil_q size3 (fun x24 =>
 WfPs slices_Growasl_uint32_uint32_at_nil_rs (x24, ()) →
 LoopJ (List UInt32 × Int × Unit) (x24, (0 : Int), ()) fun y next =>
 WfY pl_slices_Concatasl_uint32_uint32_11.kinds y →
 slices_Concatasl_uint32_uint32_l11 slices0 y.1 y.2.1 next K)))
def slices_Concatasl_uint32_uint32_q (slices0 : List (List UInt32)) (K : List UInt32 -> Prop) : Prop :=
 LoopJ (Int × Int × Unit) ((0 : Int), (0 : Int), ()) fun y next =>
 WfY pl_slices_Concatasl_uint32_uint32_3.kinds y →
 slices_Concatasl_uint32_uint32_l3 slices0 y.1 y.2.1 next K
noncomputable def tab_slices_Concatasl_uint32_uint32 : Tab := ⟨[(f_slices_Growasl_uint32_uint32, ct_slices_Growasl_uint32_uint32_at_nil)], []⟩
abbrev slices_Concatasl_uint32_uint32_L (x : PkTs slices_Concatasl_uint32_uint32_ps) (K : PkTs slices_Concatasl_uint32_uint32_rs -> Prop) : Prop := slices_Concatasl_uint32_uint32_q x.1 (fun r0 => K (r0, ()))
theorem slices_Concatasl_uint32_uint32_eq : slices_Concatasl_uint32_uint32_L = fun x K => PCode Try.prog tab_slices_Concatasl_uint32_uint32 plan_slices_Concatasl_uint32_uint32 (bodyOf Try.f81) (parS slices_Concatasl_uint32_uint32_ps x) (PRet Try.prog Try.f81.results.toList fun a st => outP slices_Concatasl_uint32_uint32_rs st a K) := by kernel_rfl
theorem slices_Concatasl_uint32_uint32_fq : FnQ Try.prog f_slices_Concatasl_uint32_uint32 slices_Concatasl_uint32_uint32_ps slices_Concatasl_uint32_uint32_rs slices_Concatasl_uint32_uint32_L := (fnQ_of k_slices_Concatasl_uint32_uint32 (tab := tab_slices_Concatasl_uint32_uint32) ⟨⟨ct_slices_Growasl_uint32_uint32_at_nil_ok, trivial⟩, trivial⟩ rfl).of_eq slices_Concatasl_uint32_uint32_eq
noncomputable def ct_slices_Concatasl_uint32_uint32 : Ct := ctVal slices_Concatasl_uint32_uint32_ps slices_Concatasl_uint32_uint32_rs slices_Concatasl_uint32_uint32_L
theorem ct_slices_Concatasl_uint32_uint32_ok : SoundCt Try.prog f_slices_Concatasl_uint32_uint32 ct_slices_Concatasl_uint32_uint32 := ctVal_sound slices_Concatasl_uint32_uint32_fq
def plan_path_Merge : PPlan := ⟨[], [], [], [], [], []⟩
theorem k_path_Merge : Known Try.prog f_path_Merge Try.f67 plan_path_Merge.plan (bodyOf Try.f67) := by refine ⟨Try.func67, ?_, ?_, ?_, ?_, ?_⟩ <;> kernel_rfl
abbrev path_Merge_ps : List Pk := [Pk.lst [Kd.bool, Kd.lst [Kd.int .u32]], Pk.lst [Kd.bool, Kd.lst [Kd.int .u32]]]
abbrev path_Merge_rs : List Pk := [Pk.lst [Kd.bool, Kd.lst [Kd.int .u32]]]
def path_Merge_j1 (j0 : List (Bool × List UInt32)) (j1 : List (Bool × List UInt32)) (K : List (Bool × List UInt32) -> Prop) : Prop :=
 j0.length + j1.length <= 4398046511008 ∧
 K (j0 ++ j1)
def path_Merge_j0 (x20 : List (Bool × List UInt32)) (x22 : List (Bool × List UInt32)) (j3 : Bool) (K : List (Bool × List UInt32) -> Prop) : Prop :=
 IfB j3
 ((0 : Int) <= (IntKind.wrap .i64 ((x20.length : Int) - 1)) ∧ (IntKind.wrap .i64 ((x20.length : Int) - 1)) < (x20.length : Int) ∧
 AtN x20 ((IntKind.wrap .i64 ((x20.length : Int) - 1)).toNat) fun x54 =>
 WfT ks_bool_lst_int_u32 x54 →
 (0 : Int) <= 0 ∧ 0 < (x22.length : Int) ∧
 AtN x22 0 fun x58 =>
 WfT ks_bool_lst_int_u32 x58 →
 (WfPs slices_Concatasl_uint32_uint32_ps (([x54.2, x58.2] : List (List UInt32)), ()) →
 slices_Concatasl_uint32_uint32_q ([x54.2, x58.2] : List (List UInt32)) (fun x60 =>
 WfPs slices_Concatasl_uint32_uint32_rs (x60, ()) →
 (0 : Int) <= (IntKind.wrap .i64 ((x20.length : Int) - 1)) ∧ (IntKind.wrap .i64 ((x20.length : Int) - 1)) < (x20.length : Int) ∧
 AtN x20 ((IntKind.wrap .i64 ((x20.length : Int) - 1)).toNat) fun el =>
 WfT ks_bool_lst_int_u32 el →
 (0 : Int) <= 1 ∧ 1 <= (x22.length : Int) ∧
 path_Merge_j1 (x20.set ((IntKind.wrap .i64 ((x20.length : Int) - 1)).toNat) (el.1, x60)) (x22.drop 1) K)))
 (path_Merge_j1 x20 x22 K)
def path_Merge_q (two0 : List (Bool × List UInt32)) (four1 : List (Bool × List UInt32)) (K : List (Bool × List UInt32) -> Prop) : Prop :=
 (WfPs path_Len_ps (two0, ()) →
 path_Len_q two0 (fun x10 =>
 WfPs path_Len_rs (x10, ()) →
 (WfPs path_Len_ps (four1, ()) →
 path_Len_q four1 (fun x12 =>
 WfPs path_Len_rs (x12, ()) →
 IfB (decide (((IntKind.wrap .i64 (x10 - x12)) : Int) < 0))
 ((WfPs path_clone_ps (two0, ()) →
 path_clone_q two0 (fun x17 =>
 WfPs path_clone_rs (x17, ()) →
 K x17)))
 ((WfPs path_front_ps (two0, (IntKind.wrap .i64 (x10 - x12)), ()) →
 path_front_q two0 (IntKind.wrap .i64 (x10 - x12)) (fun x20 =>
 WfPs path_front_rs (x20, ()) →
 (WfPs path_clone_ps (four1, ()) →
 path_clone_q four1 (fun x22 =>
 WfPs path_clone_rs (x22, ()) →
 IfB (decide (((IntKind.wrap .i64 ((x20.length : Int) - 1)) : Int) ≥ 0))
 (IfB (decide (((x22.length : Int) : Int) > 0))
 ((0 : Int) <= (IntKind.wrap .i64 ((x20.length : Int) - 1)) ∧ (IntKind.wrap .i64 ((x20.length : Int) - 1)) < (x20.length : Int) ∧
 AtN x20 ((IntKind.wrap .i64 ((x20.length : Int) - 1)).toNat) fun x38 =>
 WfT ks_bool_lst_int_u32 x38 →
 IfB (!x38.1)
 ((0 : Int) <= 0 ∧ 0 < (x22.length : Int) ∧
 AtN x22 0 fun x45 =>
 WfT ks_bool_lst_int_u32 x45 →
 path_Merge_j0 x20 x22 (!x45.1) K)
 (path_Merge_j0 x20 x22 false K))
 (path_Merge_j0 x20 x22 false K))
 (path_Merge_j0 x20 x22 false K))))))))))
noncomputable def tab_path_Merge : Tab := ⟨[(f_path_Len, ct_path_Len), (f_path_clone, ct_path_clone), (f_path_front, ct_path_front), (f_slices_Concatasl_uint32_uint32, ct_slices_Concatasl_uint32_uint32)], []⟩
abbrev path_Merge_L (x : PkTs path_Merge_ps) (K : PkTs path_Merge_rs -> Prop) : Prop := path_Merge_q x.1 x.2.1 (fun r0 => K (r0, ()))
theorem path_Merge_eq : path_Merge_L = fun x K => PCode Try.prog tab_path_Merge plan_path_Merge (bodyOf Try.f67) (parS path_Merge_ps x) (PRet Try.prog Try.f67.results.toList fun a st => outP path_Merge_rs st a K) := by kernel_rfl
theorem path_Merge_fq : FnQ Try.prog f_path_Merge path_Merge_ps path_Merge_rs path_Merge_L := (fnQ_of k_path_Merge (tab := tab_path_Merge) ⟨⟨ct_path_Len_ok, ct_path_clone_ok, ct_path_front_ok, ct_slices_Concatasl_uint32_uint32_ok, trivial⟩, trivial⟩ rfl).of_eq path_Merge_eq
def plan_attr_next : PPlan := ⟨[], [], [], [], [], []⟩
theorem k_attr_next : Known Try.prog f_attr_next Try.f47 plan_attr_next.plan (bodyOf Try.f47) := by refine ⟨Try.func47, ?_, ?_, ?_, ?_, ?_⟩ <;> kernel_rfl
abbrev attr_next_ps : List Pk := [Pk.lst [Kd.int .u8]]
abbrev attr_next_rs : List Pk := [Pk.agg [Kd.int .u8, Kd.int .i64, Kd.lst [Kd.int .u8], Kd.int .i64], Pk.bool]
def attr_next_j1  (K : (UInt8 × Int × List UInt8 × Int) -> Bool -> Prop) : Prop :=
 K ((ofI .u8 0), 0, ([] : List UInt8), 0) false
def attr_next_j0  (K : (UInt8 × Int × List UInt8 × Int) -> Bool -> Prop) : Prop :=
 attr_next_j1 K
def attr_next_j2 (b0 : List UInt8) (j5 : Int) (j6 : Int) (K : (UInt8 × Int × List UInt8 × Int) -> Bool -> Prop) : Prop :=
 IfB (decide ((j6 : Int) <= (IntKind.wrap .i64 ((b0.length : Int) - j5))))
 ((0 : Int) <= 0 ∧ AtN b0 0 fun x37 =>
 WfT ks_int_u8 x37 →
 (0 : Int) <= 1 ∧ AtN b0 1 fun x41 =>
 WfT ks_int_u8 x41 →
 (0 : Int) <= (IntKind.wrap .i64 (j5 + j6)) ∧ (IntKind.wrap .i64 (j5 + j6)) <= (b0.length : Int) ∧
 (0 : Int) <= j5 ∧ j5 <= ((IntKind.wrap .i64 (j5 + j6)).toNat : Int) ∧
 K ((ofI .u8 (bitsAnd .u8 (x37.toNat : Int) 192)), (IntKind.wrap .i64 (x41.toNat : Int)), ((b0.take ((IntKind.wrap .i64 (j5 + j6)).toNat)).drop j5.toNat), (IntKind.wrap .i64 (j5 + j6))) true)
 (attr_next_j1 K)
def attr_next_q (b0 : List UInt8) (K : (UInt8 × Int × List UInt8 × Int) -> Bool -> Prop) : Prop :=
 IfB (decide (((b0.length : Int) : Int) < 3))
 (attr_next_j0 K)
 ((0 : Int) <= 2 ∧ AtN b0 2 fun x11 =>
 WfT ks_int_u8 x11 →
 (0 : Int) <= 0 ∧ AtN b0 0 fun x15 =>
 WfT ks_int_u8 x15 →
 IfB (((bitsAnd .u8 (x15.toNat : Int) 16) : Int) != 0)
 (IfB (decide (((b0.length : Int) : Int) < 4))
 (attr_next_j0 K)
 ((0 : Int) <= 8 ∧
 (0 : Int) <= 3 ∧ AtN b0 3 fun x26 =>
 WfT ks_int_u8 x26 →
 attr_next_j2 b0 4 (bitsOr .i64 (IntKind.wrap .i64 ((IntKind.wrap .i64 (x11.toNat : Int)) * 256)) (IntKind.wrap .i64 (x26.toNat : Int))) K))
 (attr_next_j2 b0 3 (IntKind.wrap .i64 (x11.toNat : Int)) K))
noncomputable def tab_attr_next : Tab := ⟨[], []⟩
abbrev attr_next_L (x : PkTs attr_next_ps) (K : PkTs attr_next_rs -> Prop) : Prop := attr_next_q x.1 (fun r0 r1 => K (r0, r1, ()))
theorem attr_next_eq : attr_next_L = fun x K => PCode Try.prog tab_attr_next plan_attr_next (bodyOf Try.f47) (parS attr_next_ps x) (PRet Try.prog Try.f47.results.toList fun a st => outP attr_next_rs st a K) := by kernel_rfl
theorem attr_next_fq : FnQ Try.prog f_attr_next attr_next_ps attr_next_rs attr_next_L := (fnQ_of k_attr_next (tab := tab_attr_next) ⟨trivial, trivial⟩ rfl).of_eq attr_next_eq
def plan_attr_get : PPlan := ⟨[], [], [], [], [], []⟩
theorem k_attr_get : Known Try.prog f_attr_get Try.f66 plan_attr_get.plan (bodyOf Try.f66) := by refine ⟨Try.func66, ?_, ?_, ?_, ?_, ?_⟩ <;> kernel_rfl
abbrev attr_get_ps : List Pk := [Pk.lst [Kd.int .u8]]
abbrev attr_get_rs : List Pk := [Pk.int .u32]
def attr_get_q (b0 : List UInt8) (K : Int -> Prop) : Prop :=
 (0 : Int) <= 0 ∧ AtN b0 0 fun x4 =>
 WfT ks_int_u8 x4 →
 (0 : Int) <= 24 ∧
 (0 : Int) <= 1 ∧ AtN b0 1 fun x9 =>
 WfT ks_int_u8 x9 →
 (0 : Int) <= 16 ∧
 (0 : Int) <= 2 ∧ AtN b0 2 fun x15 =>
 WfT ks_int_u8 x15 →
 (0 : Int) <= 8 ∧
 (0 : Int) <= 3 ∧ AtN b0 3 fun x21 =>
 WfT ks_int_u8 x21 →
 K (bitsOr .u32 (bitsOr .u32 (bitsOr .u32 (IntKind.wrap .u32 ((IntKind.wrap .u32 (x4.toNat : Int)) * 16777216)) (IntKind.wrap .u32 ((IntKind.wrap .u32 (x9.toNat : Int)) * 65536))) (IntKind.wrap .u32 ((IntKind.wrap .u32 (x15.toNat : Int)) * 256))) (IntKind.wrap .u32 (x21.toNat : Int)))
noncomputable def tab_attr_get : Tab := ⟨[], []⟩
abbrev attr_get_L (x : PkTs attr_get_ps) (K : PkTs attr_get_rs -> Prop) : Prop := attr_get_q x.1 (fun r0 => K (r0, ()))
theorem attr_get_eq : attr_get_L = fun x K => PCode Try.prog tab_attr_get plan_attr_get (bodyOf Try.f66) (parS attr_get_ps x) (PRet Try.prog Try.f66.results.toList fun a st => outP attr_get_rs st a K) := by kernel_rfl
theorem attr_get_fq : FnQ Try.prog f_attr_get attr_get_ps attr_get_rs attr_get_L := (fnQ_of k_attr_get (tab := tab_attr_get) ⟨trivial, trivial⟩ rfl).of_eq attr_get_eq
def plan_slices_Cloneasl_byte_byte : PPlan := ⟨[], [], [], [], [], []⟩
theorem k_slices_Cloneasl_byte_byte : Known Try.prog f_slices_Cloneasl_byte_byte Try.f39 plan_slices_Cloneasl_byte_byte.plan (bodyOf Try.f39) := by refine ⟨Try.func39, ?_, ?_, ?_, ?_, ?_⟩ <;> kernel_rfl
abbrev slices_Cloneasl_byte_byte_ps : List Pk := [Pk.lst [Kd.int .u8]]
abbrev slices_Cloneasl_byte_byte_rs : List Pk := [Pk.lst [Kd.int .u8]]
def slices_Cloneasl_byte_byte_q (s0 : List UInt8) (K : List UInt8 -> Prop) : Prop :=
 ∀ isnil : Bool, (isnil = true -> s0.length = 0) →
 IfB isnil
 (K ([] : List UInt8))
 (([] : List UInt8).length + s0.length <= 140737488355232 ∧
 K (([] : List UInt8) ++ s0))
noncomputable def tab_slices_Cloneasl_byte_byte : Tab := ⟨[], []⟩
abbrev slices_Cloneasl_byte_byte_L (x : PkTs slices_Cloneasl_byte_byte_ps) (K : PkTs slices_Cloneasl_byte_byte_rs -> Prop) : Prop := slices_Cloneasl_byte_byte_q x.1 (fun r0 => K (r0, ()))
theorem slices_Cloneasl_byte_byte_eq : slices_Cloneasl_byte_byte_L = fun x K => PCode Try.prog tab_slices_Cloneasl_byte_byte plan_slices_Cloneasl_byte_byte (bodyOf Try.f39) (parS slices_Cloneasl_byte_byte_ps x) (PRet Try.prog Try.f39.results.toList fun a st => outP slices_Cloneasl_byte_byte_rs st a K) := by kernel_rfl
theorem slices_Cloneasl_byte_byte_fq : FnQ Try.prog f_slices_Cloneasl_byte_byte slices_Cloneasl_byte_byte_ps slices_Cloneasl_byte_byte_rs slices_Cloneasl_byte_byte_L := (fnQ_of k_slices_Cloneasl_byte_byte (tab := tab_slices_Cloneasl_byte_byte) ⟨trivial, trivial⟩ rfl).of_eq slices_Cloneasl_byte_byte_eq
end Go.Proofs.Ytinilfhnplfhoaa
