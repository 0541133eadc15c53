/-
  EACH FUNCTION OVER PLAIN DATA: printed by a program of ours over this translation.
-/
import Derived.Test.YtolmljommmhpkaaDoorNum
import Derived.Test.YtolmljommmhpkaaDoorLaid07t
import Derived.Test.YtolmljommmhpkaaDoorLib07t
import Derived.Test.YtolmljommmhpkaaDoorLib07s
set_option maxRecDepth 100000
set_option maxHeartbeats 4000000
set_option linter.unusedVariables false
namespace Go.Proofs.YtolmljommmhpkaaDoor
open Go.Sh
abbrev ks_int_u8 : List Kd := [Kd.int .u8]
abbrev ks_str : List Kd := [Kd.str]
def plan_ip_Packet_right : PPlan := ⟨[], [], [], [], [(3, 5)], []⟩
theorem k_ip_Packet_right : Known Tryd.prog f_ip_Packet_right Tryd.f29 plan_ip_Packet_right.plan (bodyOf Tryd.f29) := ⟨Tryd.func29, by kernel_rfl, by kernel_rfl, by kernel_rfl, by kernel_rfl, by kernel_rfl⟩
abbrev ip_Packet_right_ps : List Pk := [Pk.agg [Kd.int .i64, Kd.int .i64, Kd.int .i64, Kd.int .i64, Kd.bool, Kd.bool, Kd.int .u32, Kd.int .u32, Kd.lst [Kd.int .u8]]]
abbrev ip_Packet_right_rs : List Pk := [Pk.bool]
def ip_Packet_right_j3 (p0 : Int × Int × Int × Int × Bool × Bool × UInt32 × UInt32 × List UInt8) (j9_3 : Bool) (K : Bool → Prop) : Prop :=
 IfB j9_3
 (K false)
 (K true)
def ip_Packet_right_j2 (p0 : Int × Int × Int × Int × Bool × Bool × UInt32 × UInt32 × List UInt8) (j9_2 : Bool) (K : Bool → Prop) : Prop :=
 IfB j9_2
 (K false)
 (IfB (decide ((p0.2.2.2.1 : Int) < 0))
 (ip_Packet_right_j3 p0 true K)
 (ip_Packet_right_j3 p0 (decide ((p0.2.2.2.1 : Int) > 255)) K))
def ip_Packet_right_j1 (p0 : Int × Int × Int × Int × Bool × Bool × UInt32 × UInt32 × List UInt8) (j9_1 : Bool) (K : Bool → Prop) : Prop :=
 IfB j9_1
 (K false)
 (IfB (decide ((p0.2.2.1 : Int) < 0))
 (ip_Packet_right_j2 p0 true K)
 (ip_Packet_right_j2 p0 (decide ((p0.2.2.1 : Int) > 255)) K))
def ip_Packet_right_j0 (p0 : Int × Int × Int × Int × Bool × Bool × UInt32 × UInt32 × List UInt8) (j9 : Bool) (K : Bool → Prop) : Prop :=
 IfB j9
 (K false)
 (IfB (decide ((p0.1 : Int) < 0))
 (ip_Packet_right_j1 p0 true K)
 (ip_Packet_right_j1 p0 (decide ((p0.1 : Int) > 65535)) K))
def ip_Packet_right_q (p0 : Int × Int × Int × Int × Bool × Bool × UInt32 × UInt32 × List UInt8) (K : Bool → Prop) : Prop :=
 IfB (decide ((p0.2.1 : Int) < 0))
 (ip_Packet_right_j0 p0 true K)
 (ip_Packet_right_j0 p0 (decide ((p0.2.1 : Int) > 8191)) K)
noncomputable def tab_ip_Packet_right : List (Nat × Ct) := []
theorem ip_Packet_right_eq : (fun (x : PkTs ip_Packet_right_ps) (K : PkTs ip_Packet_right_rs → Prop) => ip_Packet_right_q x.1 (fun r0 => K (r0, ()))) = fun x K => PCode Tryd.prog tab_ip_Packet_right plan_ip_Packet_right (bodyOf Tryd.f29) (parS ip_Packet_right_ps x) (PRet Tryd.prog Tryd.f29.results.toList fun a st => outP ip_Packet_right_rs st a K) := by kernel_rfl
theorem ip_Packet_right_fq : FnQ Tryd.prog f_ip_Packet_right ip_Packet_right_ps ip_Packet_right_rs (fun x K => ip_Packet_right_q x.1 (fun r0 => K (r0, ()))) := (fnQ_of k_ip_Packet_right (tab := tab_ip_Packet_right) trivial rfl).of_eq ip_Packet_right_eq
noncomputable def ct_ip_Packet_right : Ct := ctRd ip_Packet_right_ps ip_Packet_right_rs (fun x K => ip_Packet_right_q x.1 (fun r0 => K (r0, ())))
theorem ct_ip_Packet_right_ok : SoundCt Tryd.prog f_ip_Packet_right ct_ip_Packet_right := ctRd_sound ip_Packet_right_fq
def plan_ip_put16 : PPlan := ⟨[], [], [], [], [], []⟩
theorem k_ip_put16 : Known Tryd.prog f_ip_put16 Tryd.f30 plan_ip_put16.plan (bodyOf Tryd.f30) := ⟨Tryd.func30, by kernel_rfl, by kernel_rfl, by kernel_rfl, by kernel_rfl, by kernel_rfl⟩
noncomputable def tab_ip_put16 : List (Nat × Ct) := []
noncomputable def ct_ip_put16 : Ct := ctInl Tryd.prog tab_ip_put16 plan_ip_put16 (bodyOf Tryd.f30) Tryd.f30.ntmps Tryd.f30.results.toList
theorem ct_ip_put16_ok : SoundCt Tryd.prog f_ip_put16 ct_ip_put16 := ctInl_sound k_ip_put16 trivial
def plan_ip_Packet_flags : PPlan := ⟨[], [], [], [], [], []⟩
theorem k_ip_Packet_flags : Known Tryd.prog f_ip_Packet_flags Tryd.f31 plan_ip_Packet_flags.plan (bodyOf Tryd.f31) := ⟨Tryd.func31, by kernel_rfl, by kernel_rfl, by kernel_rfl, by kernel_rfl, by kernel_rfl⟩
abbrev ip_Packet_flags_ps : List Pk := [Pk.agg [Kd.int .i64, Kd.int .i64, Kd.int .i64, Kd.int .i64, Kd.bool, Kd.bool, Kd.int .u32, Kd.int .u32, Kd.lst [Kd.int .u8]]]
abbrev ip_Packet_flags_rs : List Pk := [Pk.int .i64]
def ip_Packet_flags_j0 (p0 : Int × Int × Int × Int × Bool × Bool × UInt32 × UInt32 × List UInt8) (j9 : Int) (K : Int → Prop) : Prop :=
 IfB p0.2.2.2.2.2.1
 (K (bitsOr .i64 j9 8192))
 (K j9)
def ip_Packet_flags_q (p0 : Int × Int × Int × Int × Bool × Bool × UInt32 × UInt32 × List UInt8) (K : Int → Prop) : Prop :=
 IfB p0.2.2.2.2.1
 (ip_Packet_flags_j0 p0 (bitsOr .i64 p0.2.1 16384) K)
 (ip_Packet_flags_j0 p0 p0.2.1 K)
noncomputable def tab_ip_Packet_flags : List (Nat × Ct) := []
theorem ip_Packet_flags_eq : (fun (x : PkTs ip_Packet_flags_ps) (K : PkTs ip_Packet_flags_rs → Prop) => ip_Packet_flags_q x.1 (fun r0 => K (r0, ()))) = fun x K => PCode Tryd.prog tab_ip_Packet_flags plan_ip_Packet_flags (bodyOf Tryd.f31) (parS ip_Packet_flags_ps x) (PRet Tryd.prog Tryd.f31.results.toList fun a st => outP ip_Packet_flags_rs st a K) := by kernel_rfl
theorem ip_Packet_flags_fq : FnQ Tryd.prog f_ip_Packet_flags ip_Packet_flags_ps ip_Packet_flags_rs (fun x K => ip_Packet_flags_q x.1 (fun r0 => K (r0, ()))) := (fnQ_of k_ip_Packet_flags (tab := tab_ip_Packet_flags) trivial rfl).of_eq ip_Packet_flags_eq
noncomputable def ct_ip_Packet_flags : Ct := ctRd ip_Packet_flags_ps ip_Packet_flags_rs (fun x K => ip_Packet_flags_q x.1 (fun r0 => K (r0, ())))
theorem ct_ip_Packet_flags_ok : SoundCt Tryd.prog f_ip_Packet_flags ct_ip_Packet_flags := ctRd_sound ip_Packet_flags_fq
def plan_ip_put32 : PPlan := ⟨[], [], [], [], [], []⟩
theorem k_ip_put32 : Known Tryd.prog f_ip_put32 Tryd.f32 plan_ip_put32.plan (bodyOf Tryd.f32) := ⟨Tryd.func32, by kernel_rfl, by kernel_rfl, by kernel_rfl, by kernel_rfl, by kernel_rfl⟩
noncomputable def tab_ip_put32 : List (Nat × Ct) := [(f_ip_put16, ct_ip_put16)]
noncomputable def ct_ip_put32 : Ct := ctInl Tryd.prog tab_ip_put32 plan_ip_put32 (bodyOf Tryd.f32) Tryd.f32.ntmps Tryd.f32.results.toList
theorem ct_ip_put32_ok : SoundCt Tryd.prog f_ip_put32 ct_ip_put32 := ctInl_sound k_ip_put32 ⟨ct_ip_put16_ok, trivial⟩
def pl_sum_round_2000000 : PLoop := ⟨[(0, PK.int .u32)], [], none⟩
def plan_sum_round : PPlan := ⟨[], [(2000000, pl_sum_round_2000000)], [], [], [], []⟩
theorem k_sum_round : Known Tryd.prog f_sum_round Tryd.f62 plan_sum_round.plan (bodyOf Tryd.f62) := ⟨Tryd.func62, by kernel_rfl, by kernel_rfl, by kernel_rfl, by kernel_rfl, by kernel_rfl⟩
abbrev sum_round_ps : List Pk := [Pk.int .u32]
abbrev sum_round_rs : List Pk := [Pk.int .u32]
def sum_round_l2000000 (n0_1 : Int) (next2000000 : (Int × Unit) → Prop) (K : Int → Prop) : Prop :=
 IfB (decide ((n0_1 : Int) > 65535))
 ((0 : Int) ≤ 16 ∧
 next2000000 ((IntKind.wrap .u32 ((bitsAnd .u32 n0_1 65535) + (Int.fdiv n0_1 65536))), ()))
 (K n0_1)
def sum_round_q (n0 : Int) (K : Int → Prop) : Prop :=
 LoopJ (Int × Unit) (n0, ()) fun y next =>
 WfY pl_sum_round_2000000.kinds y →
 sum_round_l2000000 y.1 next K
noncomputable def tab_sum_round : List (Nat × Ct) := []
theorem sum_round_eq : (fun (x : PkTs sum_round_ps) (K : PkTs sum_round_rs → Prop) => sum_round_q x.1 (fun r0 => K (r0, ()))) = fun x K => PCode Tryd.prog tab_sum_round plan_sum_round (bodyOf Tryd.f62) (parS sum_round_ps x) (PRet Tryd.prog Tryd.f62.results.toList fun a st => outP sum_round_rs st a K) := by kernel_rfl
theorem sum_round_fq : FnQ Tryd.prog f_sum_round sum_round_ps sum_round_rs (fun x K => sum_round_q x.1 (fun r0 => K (r0, ()))) := (fnQ_of k_sum_round (tab := tab_sum_round) trivial rfl).of_eq sum_round_eq
noncomputable def ct_sum_round : Ct := ctRd sum_round_ps sum_round_rs (fun x K => sum_round_q x.1 (fun r0 => K (r0, ())))
theorem ct_sum_round_ok : SoundCt Tryd.prog f_sum_round ct_sum_round := ctRd_sound sum_round_fq
def plan_sum_Fold : PPlan := ⟨[], [], [], [], [], []⟩
theorem k_sum_Fold : Known Tryd.prog f_sum_Fold Tryd.f51 plan_sum_Fold.plan (bodyOf Tryd.f51) := ⟨Tryd.func51, by kernel_rfl, by kernel_rfl, by kernel_rfl, by kernel_rfl, by kernel_rfl⟩
abbrev sum_Fold_ps : List Pk := [Pk.int .u32]
abbrev sum_Fold_rs : List Pk := [Pk.int .u16]
def sum_Fold_q (partial0 : Int) (K : Int → Prop) : Prop :=
 (WfPs sum_round_ps (partial0, ()) →
 sum_round_q partial0 (fun x4 =>
 WfPs sum_round_rs (x4, ()) →
 K (bitsXor .u16 (if IntKind.signed .u16 = true then (-1) else IntKind.max .u16) (IntKind.wrap .u16 x4))))
noncomputable def tab_sum_Fold : List (Nat × Ct) := [(f_sum_round, ct_sum_round)]
theorem sum_Fold_eq : (fun (x : PkTs sum_Fold_ps) (K : PkTs sum_Fold_rs → Prop) => sum_Fold_q x.1 (fun r0 => K (r0, ()))) = fun x K => PCode Tryd.prog tab_sum_Fold plan_sum_Fold (bodyOf Tryd.f51) (parS sum_Fold_ps x) (PRet Tryd.prog Tryd.f51.results.toList fun a st => outP sum_Fold_rs st a K) := by kernel_rfl
theorem sum_Fold_fq : FnQ Tryd.prog f_sum_Fold sum_Fold_ps sum_Fold_rs (fun x K => sum_Fold_q x.1 (fun r0 => K (r0, ()))) := (fnQ_of k_sum_Fold (tab := tab_sum_Fold) ⟨ct_sum_round_ok, trivial⟩ rfl).of_eq sum_Fold_eq
noncomputable def ct_sum_Fold : Ct := ctRd sum_Fold_ps sum_Fold_rs (fun x K => sum_Fold_q x.1 (fun r0 => K (r0, ())))
theorem ct_sum_Fold_ok : SoundCt Tryd.prog f_sum_Fold ct_sum_Fold := ctRd_sound sum_Fold_fq
def pl_sum_Add_3 : PLoop := ⟨[(5, PK.int .u32), (12, PK.int .i64)], [1, 11], none⟩
def plan_sum_Add : PPlan := ⟨[], [(3, pl_sum_Add_3)], [], [], [], []⟩
theorem k_sum_Add : Known Tryd.prog f_sum_Add Tryd.f52 plan_sum_Add.plan (bodyOf Tryd.f52) := ⟨Tryd.func52, by kernel_rfl, by kernel_rfl, by kernel_rfl, by kernel_rfl, by kernel_rfl⟩
abbrev sum_Add_ps : List Pk := [Pk.int .u32, Pk.lst [Kd.int .u8]]
abbrev sum_Add_rs : List Pk := [Pk.int .u32]
def sum_Add_l3 (b1 : List UInt8) (n5 : Int) (x12 : Int) (next3 : (Int × Int × Unit) → Prop) (K : Int → Prop) : Prop :=
 IfB (decide ((x12 : Int) < (IntKind.wrap .i64 (Int.tdiv (b1.length : Int) 2))))
 ((0 : Int) ≤ (IntKind.wrap .i64 (2 * x12)) ∧ AtN b1 (IntKind.wrap .i64 (2 * x12)).toNat fun x19 =>
 WfT ks_int_u8 x19 →
 (0 : Int) ≤ 8 ∧
 (0 : Int) ≤ (IntKind.wrap .i64 ((IntKind.wrap .i64 (2 * x12)) + 1)) ∧ AtN b1 (IntKind.wrap .i64 ((IntKind.wrap .i64 (2 * x12)) + 1)).toNat fun x28 =>
 WfT ks_int_u8 x28 →
 (WfPs sum_round_ps ((IntKind.wrap .u32 ((IntKind.wrap .u32 (n5 + (IntKind.wrap .u32 ((IntKind.wrap .u32 (x19.toNat : Int)) * 256)))) + (IntKind.wrap .u32 (x28.toNat : Int)))), ()) →
 sum_round_q (IntKind.wrap .u32 ((IntKind.wrap .u32 (n5 + (IntKind.wrap .u32 ((IntKind.wrap .u32 (x19.toNat : Int)) * 256)))) + (IntKind.wrap .u32 (x28.toNat : Int)))) (fun x32 =>
 WfPs sum_round_rs (x32, ()) →
 next3 (x32, (IntKind.wrap .i64 (x12 + 1)), ()))))
 ((2 : Int) ≠ 0 ∧
 IfB (((Int.tmod (b1.length : Int) 2) : Int) == 1)
 ((0 : Int) ≤ (IntKind.wrap .i64 ((b1.length : Int) - 1)) ∧ AtN b1 (IntKind.wrap .i64 ((b1.length : Int) - 1)).toNat fun x43 =>
 WfT ks_int_u8 x43 →
 (0 : Int) ≤ 8 ∧
 (WfPs sum_round_ps ((IntKind.wrap .u32 (n5 + (IntKind.wrap .u32 ((IntKind.wrap .u32 (x43.toNat : Int)) * 256)))), ()) →
 sum_round_q (IntKind.wrap .u32 (n5 + (IntKind.wrap .u32 ((IntKind.wrap .u32 (x43.toNat : Int)) * 256)))) (fun x48 =>
 WfPs sum_round_rs (x48, ()) →
 K x48)))
 (K n5))
def sum_Add_q (partial0 : Int) (b1 : List UInt8) (K : Int → Prop) : Prop :=
 (WfPs sum_round_ps (partial0, ()) →
 sum_round_q partial0 (fun x8 =>
 WfPs sum_round_rs (x8, ()) →
 (2 : Int) ≠ 0 ∧
 LoopJ (Int × Int × Unit) (x8, (0 : Int), ()) fun y next =>
 WfY pl_sum_Add_3.kinds y →
 sum_Add_l3 b1 y.1 y.2.1 next K))
noncomputable def tab_sum_Add : List (Nat × Ct) := [(f_sum_round, ct_sum_round)]
theorem sum_Add_eq : (fun (x : PkTs sum_Add_ps) (K : PkTs sum_Add_rs → Prop) => sum_Add_q x.1 x.2.1 (fun r0 => K (r0, ()))) = fun x K => PCode Tryd.prog tab_sum_Add plan_sum_Add (bodyOf Tryd.f52) (parS sum_Add_ps x) (PRet Tryd.prog Tryd.f52.results.toList fun a st => outP sum_Add_rs st a K) := by kernel_rfl
theorem sum_Add_fq : FnQ Tryd.prog f_sum_Add sum_Add_ps sum_Add_rs (fun x K => sum_Add_q x.1 x.2.1 (fun r0 => K (r0, ()))) := (fnQ_of k_sum_Add (tab := tab_sum_Add) ⟨ct_sum_round_ok, trivial⟩ rfl).of_eq sum_Add_eq
noncomputable def ct_sum_Add : Ct := ctRd sum_Add_ps sum_Add_rs (fun x K => sum_Add_q x.1 x.2.1 (fun r0 => K (r0, ())))
theorem ct_sum_Add_ok : SoundCt Tryd.prog f_sum_Add ct_sum_Add := ctRd_sound sum_Add_fq
def plan_sum_Of : PPlan := ⟨[], [], [], [], [], []⟩
theorem k_sum_Of : Known Tryd.prog f_sum_Of Tryd.f33 plan_sum_Of.plan (bodyOf Tryd.f33) := ⟨Tryd.func33, by kernel_rfl, by kernel_rfl, by kernel_rfl, by kernel_rfl, by kernel_rfl⟩
abbrev sum_Of_ps : List Pk := [Pk.lst [Kd.int .u8]]
abbrev sum_Of_rs : List Pk := [Pk.int .u16]
def sum_Of_q (b0 : List UInt8) (K : Int → Prop) : Prop :=
 (WfPs sum_Add_ps ((0 : Int), b0, ()) →
 sum_Add_q (0 : Int) b0 (fun x4 =>
 WfPs sum_Add_rs (x4, ()) →
 (WfPs sum_Fold_ps (x4, ()) →
 sum_Fold_q x4 (fun x5 =>
 WfPs sum_Fold_rs (x5, ()) →
 K x5))))
noncomputable def tab_sum_Of : List (Nat × Ct) := [(f_sum_Fold, ct_sum_Fold), (f_sum_Add, ct_sum_Add)]
theorem sum_Of_eq : (fun (x : PkTs sum_Of_ps) (K : PkTs sum_Of_rs → Prop) => sum_Of_q x.1 (fun r0 => K (r0, ()))) = fun x K => PCode Tryd.prog tab_sum_Of plan_sum_Of (bodyOf Tryd.f33) (parS sum_Of_ps x) (PRet Tryd.prog Tryd.f33.results.toList fun a st => outP sum_Of_rs st a K) := by kernel_rfl
theorem sum_Of_fq : FnQ Tryd.prog f_sum_Of sum_Of_ps sum_Of_rs (fun x K => sum_Of_q x.1 (fun r0 => K (r0, ()))) := (fnQ_of k_sum_Of (tab := tab_sum_Of) ⟨ct_sum_Fold_ok, ct_sum_Add_ok, trivial⟩ rfl).of_eq sum_Of_eq
noncomputable def ct_sum_Of : Ct := ctRd sum_Of_ps sum_Of_rs (fun x K => sum_Of_q x.1 (fun r0 => K (r0, ())))
theorem ct_sum_Of_ok : SoundCt Tryd.prog f_sum_Of ct_sum_Of := ctRd_sound sum_Of_fq
def plan_ip_Build : PPlan := ⟨[(10, [0, 1, 2, 3, 4, 5, 6, 7, 8, 9], [33])], [], [], [(10, [4])], [], []⟩
theorem k_ip_Build : Known Tryd.prog f_ip_Build Tryd.f11 plan_ip_Build.plan (bodyOf Tryd.f11) := ⟨Tryd.func11, by kernel_rfl, by kernel_rfl, by kernel_rfl, by kernel_rfl, by kernel_rfl⟩
abbrev ip_Build_ps : List Pk := [Pk.agg [Kd.int .i64, Kd.int .i64, Kd.int .i64, Kd.int .i64, Kd.bool, Kd.bool, Kd.int .u32, Kd.int .u32, Kd.lst [Kd.int .u8]]]
abbrev ip_Build_rs : List Pk := [Pk.own T_uint8 [Kd.int .u8], Pk.int .i64]
def ip_Build_q (p0 : Int × Int × Int × Int × Bool × Bool × UInt32 × UInt32 × List UInt8) (K : List UInt8 → Int → Prop) : Prop :=
 (WfPs ip_Packet_right_ps (((p0.1, p0.2.1, p0.2.2.1, p0.2.2.2.1, p0.2.2.2.2.1, p0.2.2.2.2.2.1, (ofI .u32 (p0.2.2.2.2.2.2.1.toNat : Int)), (ofI .u32 (p0.2.2.2.2.2.2.2.1.toNat : Int)), p0.2.2.2.2.2.2.2.2) : Int × Int × Int × Int × Bool × Bool × UInt32 × UInt32 × List UInt8), ()) →
 ip_Packet_right_q ((p0.1, p0.2.1, p0.2.2.1, p0.2.2.2.1, p0.2.2.2.2.1, p0.2.2.2.2.2.1, (ofI .u32 (p0.2.2.2.2.2.2.1.toNat : Int)), (ofI .u32 (p0.2.2.2.2.2.2.2.1.toNat : Int)), p0.2.2.2.2.2.2.2.2) : Int × Int × Int × Int × Bool × Bool × UInt32 × UInt32 × List UInt8) (fun x7 =>
 WfPs ip_Packet_right_rs (x7, ()) →
 IfB (!x7)
 (K ([] : List UInt8) 2)
 (IfB (decide (((p0.2.2.2.2.2.2.2.2.length : Int) : Int) > 65515))
 (K ([] : List UInt8) 3)
 ((0 : Int) ≤ 8 ∧
 (0 : Int) ≤ 8 ∧
 (WfPs ip_Packet_flags_ps (((p0.1, p0.2.1, p0.2.2.1, p0.2.2.2.1, p0.2.2.2.2.1, p0.2.2.2.2.2.1, (ofI .u32 (p0.2.2.2.2.2.2.1.toNat : Int)), (ofI .u32 (p0.2.2.2.2.2.2.2.1.toNat : Int)), p0.2.2.2.2.2.2.2.2) : Int × Int × Int × Int × Bool × Bool × UInt32 × UInt32 × List UInt8), ()) →
 ip_Packet_flags_q ((p0.1, p0.2.1, p0.2.2.1, p0.2.2.2.1, p0.2.2.2.2.1, p0.2.2.2.2.2.1, (ofI .u32 (p0.2.2.2.2.2.2.1.toNat : Int)), (ofI .u32 (p0.2.2.2.2.2.2.2.1.toNat : Int)), p0.2.2.2.2.2.2.2.2) : Int × Int × Int × Int × Bool × Bool × UInt32 × UInt32 × List UInt8) (fun x27 =>
 WfPs ip_Packet_flags_rs (x27, ()) →
 (0 : Int) ≤ 8 ∧
 (0 : Int) ≤ 16 ∧
 (0 : Int) ≤ 8 ∧
 (0 : Int) ≤ 8 ∧
 (0 : Int) ≤ 16 ∧
 (0 : Int) ≤ 8 ∧
 (0 : Int) ≤ 8 ∧
 (WfPs sum_Of_ps (([(ofI .u8 69), (ofI .u8 0), (ofI .u8 (IntKind.wrap .u8 (Int.fdiv (IntKind.wrap .i64 (20 + (p0.2.2.2.2.2.2.2.2.length : Int))) 256))), (ofI .u8 (IntKind.wrap .u8 (IntKind.wrap .i64 (20 + (p0.2.2.2.2.2.2.2.2.length : Int))))), (ofI .u8 (IntKind.wrap .u8 (Int.fdiv p0.1 256))), (ofI .u8 (IntKind.wrap .u8 p0.1)), (ofI .u8 (IntKind.wrap .u8 (Int.fdiv x27 256))), (ofI .u8 (IntKind.wrap .u8 x27)), (ofI .u8 (IntKind.wrap .u8 p0.2.2.1)), (ofI .u8 (IntKind.wrap .u8 p0.2.2.2.1)), (ofI .u8 0), (ofI .u8 0), (ofI .u8 (IntKind.wrap .u8 (Int.fdiv (IntKind.wrap .i64 (Int.fdiv (p0.2.2.2.2.2.2.1.toNat : Int) 65536)) 256))), (ofI .u8 (IntKind.wrap .u8 (IntKind.wrap .i64 (Int.fdiv (p0.2.2.2.2.2.2.1.toNat : Int) 65536)))), (ofI .u8 (IntKind.wrap .u8 (Int.fdiv (IntKind.wrap .i64 (p0.2.2.2.2.2.2.1.toNat : Int)) 256))), (ofI .u8 (IntKind.wrap .u8 (IntKind.wrap .i64 (p0.2.2.2.2.2.2.1.toNat : Int)))), (ofI .u8 (IntKind.wrap .u8 (Int.fdiv (IntKind.wrap .i64 (Int.fdiv (p0.2.2.2.2.2.2.2.1.toNat : Int) 65536)) 256))), (ofI .u8 (IntKind.wrap .u8 (IntKind.wrap .i64 (Int.fdiv (p0.2.2.2.2.2.2.2.1.toNat : Int) 65536)))), (ofI .u8 (IntKind.wrap .u8 (Int.fdiv (IntKind.wrap .i64 (p0.2.2.2.2.2.2.2.1.toNat : Int)) 256))), (ofI .u8 (IntKind.wrap .u8 (IntKind.wrap .i64 (p0.2.2.2.2.2.2.2.1.toNat : Int))))] : List UInt8), ()) →
 sum_Of_q ([(ofI .u8 69), (ofI .u8 0), (ofI .u8 (IntKind.wrap .u8 (Int.fdiv (IntKind.wrap .i64 (20 + (p0.2.2.2.2.2.2.2.2.length : Int))) 256))), (ofI .u8 (IntKind.wrap .u8 (IntKind.wrap .i64 (20 + (p0.2.2.2.2.2.2.2.2.length : Int))))), (ofI .u8 (IntKind.wrap .u8 (Int.fdiv p0.1 256))), (ofI .u8 (IntKind.wrap .u8 p0.1)), (ofI .u8 (IntKind.wrap .u8 (Int.fdiv x27 256))), (ofI .u8 (IntKind.wrap .u8 x27)), (ofI .u8 (IntKind.wrap .u8 p0.2.2.1)), (ofI .u8 (IntKind.wrap .u8 p0.2.2.2.1)), (ofI .u8 0), (ofI .u8 0), (ofI .u8 (IntKind.wrap .u8 (Int.fdiv (IntKind.wrap .i64 (Int.fdiv (p0.2.2.2.2.2.2.1.toNat : Int) 65536)) 256))), (ofI .u8 (IntKind.wrap .u8 (IntKind.wrap .i64 (Int.fdiv (p0.2.2.2.2.2.2.1.toNat : Int) 65536)))), (ofI .u8 (IntKind.wrap .u8 (Int.fdiv (IntKind.wrap .i64 (p0.2.2.2.2.2.2.1.toNat : Int)) 256))), (ofI .u8 (IntKind.wrap .u8 (IntKind.wrap .i64 (p0.2.2.2.2.2.2.1.toNat : Int)))), (ofI .u8 (IntKind.wrap .u8 (Int.fdiv (IntKind.wrap .i64 (Int.fdiv (p0.2.2.2.2.2.2.2.1.toNat : Int) 65536)) 256))), (ofI .u8 (IntKind.wrap .u8 (IntKind.wrap .i64 (Int.fdiv (p0.2.2.2.2.2.2.2.1.toNat : Int) 65536)))), (ofI .u8 (IntKind.wrap .u8 (Int.fdiv (IntKind.wrap .i64 (p0.2.2.2.2.2.2.2.1.toNat : Int)) 256))), (ofI .u8 (IntKind.wrap .u8 (IntKind.wrap .i64 (p0.2.2.2.2.2.2.2.1.toNat : Int))))] : List UInt8) (fun x47 =>
 WfPs sum_Of_rs (x47, ()) →
 (0 : Int) ≤ 8 ∧
 ([(ofI .u8 69), (ofI .u8 0), (ofI .u8 (IntKind.wrap .u8 (Int.fdiv (IntKind.wrap .i64 (20 + (p0.2.2.2.2.2.2.2.2.length : Int))) 256))), (ofI .u8 (IntKind.wrap .u8 (IntKind.wrap .i64 (20 + (p0.2.2.2.2.2.2.2.2.length : Int))))), (ofI .u8 (IntKind.wrap .u8 (Int.fdiv p0.1 256))), (ofI .u8 (IntKind.wrap .u8 p0.1)), (ofI .u8 (IntKind.wrap .u8 (Int.fdiv x27 256))), (ofI .u8 (IntKind.wrap .u8 x27)), (ofI .u8 (IntKind.wrap .u8 p0.2.2.1)), (ofI .u8 (IntKind.wrap .u8 p0.2.2.2.1)), (ofI .u8 (IntKind.wrap .u8 (Int.fdiv (IntKind.wrap .i64 x47) 256))), (ofI .u8 (IntKind.wrap .u8 (IntKind.wrap .i64 x47))), (ofI .u8 (IntKind.wrap .u8 (Int.fdiv (IntKind.wrap .i64 (Int.fdiv (p0.2.2.2.2.2.2.1.toNat : Int) 65536)) 256))), (ofI .u8 (IntKind.wrap .u8 (IntKind.wrap .i64 (Int.fdiv (p0.2.2.2.2.2.2.1.toNat : Int) 65536)))), (ofI .u8 (IntKind.wrap .u8 (Int.fdiv (IntKind.wrap .i64 (p0.2.2.2.2.2.2.1.toNat : Int)) 256))), (ofI .u8 (IntKind.wrap .u8 (IntKind.wrap .i64 (p0.2.2.2.2.2.2.1.toNat : Int)))), (ofI .u8 (IntKind.wrap .u8 (Int.fdiv (IntKind.wrap .i64 (Int.fdiv (p0.2.2.2.2.2.2.2.1.toNat : Int) 65536)) 256))), (ofI .u8 (IntKind.wrap .u8 (IntKind.wrap .i64 (Int.fdiv (p0.2.2.2.2.2.2.2.1.toNat : Int) 65536)))), (ofI .u8 (IntKind.wrap .u8 (Int.fdiv (IntKind.wrap .i64 (p0.2.2.2.2.2.2.2.1.toNat : Int)) 256))), (ofI .u8 (IntKind.wrap .u8 (IntKind.wrap .i64 (p0.2.2.2.2.2.2.2.1.toNat : Int))))] : List UInt8).length + p0.2.2.2.2.2.2.2.2.length ≤ 140737488355232 ∧
 K (([(ofI .u8 69), (ofI .u8 0), (ofI .u8 (IntKind.wrap .u8 (Int.fdiv (IntKind.wrap .i64 (20 + (p0.2.2.2.2.2.2.2.2.length : Int))) 256))), (ofI .u8 (IntKind.wrap .u8 (IntKind.wrap .i64 (20 + (p0.2.2.2.2.2.2.2.2.length : Int))))), (ofI .u8 (IntKind.wrap .u8 (Int.fdiv p0.1 256))), (ofI .u8 (IntKind.wrap .u8 p0.1)), (ofI .u8 (IntKind.wrap .u8 (Int.fdiv x27 256))), (ofI .u8 (IntKind.wrap .u8 x27)), (ofI .u8 (IntKind.wrap .u8 p0.2.2.1)), (ofI .u8 (IntKind.wrap .u8 p0.2.2.2.1)), (ofI .u8 (IntKind.wrap .u8 (Int.fdiv (IntKind.wrap .i64 x47) 256))), (ofI .u8 (IntKind.wrap .u8 (IntKind.wrap .i64 x47))), (ofI .u8 (IntKind.wrap .u8 (Int.fdiv (IntKind.wrap .i64 (Int.fdiv (p0.2.2.2.2.2.2.1.toNat : Int) 65536)) 256))), (ofI .u8 (IntKind.wrap .u8 (IntKind.wrap .i64 (Int.fdiv (p0.2.2.2.2.2.2.1.toNat : Int) 65536)))), (ofI .u8 (IntKind.wrap .u8 (Int.fdiv (IntKind.wrap .i64 (p0.2.2.2.2.2.2.1.toNat : Int)) 256))), (ofI .u8 (IntKind.wrap .u8 (IntKind.wrap .i64 (p0.2.2.2.2.2.2.1.toNat : Int)))), (ofI .u8 (IntKind.wrap .u8 (Int.fdiv (IntKind.wrap .i64 (Int.fdiv (p0.2.2.2.2.2.2.2.1.toNat : Int) 65536)) 256))), (ofI .u8 (IntKind.wrap .u8 (IntKind.wrap .i64 (Int.fdiv (p0.2.2.2.2.2.2.2.1.toNat : Int) 65536)))), (ofI .u8 (IntKind.wrap .u8 (Int.fdiv (IntKind.wrap .i64 (p0.2.2.2.2.2.2.2.1.toNat : Int)) 256))), (ofI .u8 (IntKind.wrap .u8 (IntKind.wrap .i64 (p0.2.2.2.2.2.2.2.1.toNat : Int))))] : List UInt8) ++ p0.2.2.2.2.2.2.2.2) 0))))))))
noncomputable def tab_ip_Build : List (Nat × Ct) := [(f_ip_Packet_right, ct_ip_Packet_right), (f_ip_put16, ct_ip_put16), (f_ip_Packet_flags, ct_ip_Packet_flags), (f_ip_put32, ct_ip_put32), (f_sum_Of, ct_sum_Of)]
theorem ip_Build_eq : (fun (x : PkTs ip_Build_ps) (K : PkTs ip_Build_rs → Prop) => ip_Build_q x.1 (fun r0 r1 => K (r0, r1, ()))) = fun x K => PCode Tryd.prog tab_ip_Build plan_ip_Build (bodyOf Tryd.f11) (parS ip_Build_ps x) (PRet Tryd.prog Tryd.f11.results.toList fun a st => outP ip_Build_rs st a K) := by kernel_rfl
theorem ip_Build_fq : FnQ Tryd.prog f_ip_Build ip_Build_ps ip_Build_rs (fun x K => ip_Build_q x.1 (fun r0 r1 => K (r0, r1, ()))) := (fnQ_of k_ip_Build (tab := tab_ip_Build) ⟨ct_ip_Packet_right_ok, ct_ip_put16_ok, ct_ip_Packet_flags_ok, ct_ip_put32_ok, ct_sum_Of_ok, trivial⟩ rfl).of_eq ip_Build_eq
noncomputable def ct_ip_Build : Ct := ctVal ip_Build_ps ip_Build_rs (fun x K => ip_Build_q x.1 (fun r0 r1 => K (r0, r1, ())))
theorem ct_ip_Build_ok : SoundCt Tryd.prog f_ip_Build ct_ip_Build := ctVal_sound ip_Build_fq
def plan_base_SameBytes : PPlan := ⟨[], [], [], [], [], []⟩
theorem k_base_SameBytes : Known Tryd.prog f_base_SameBytes Tryd.f14 plan_base_SameBytes.plan (bodyOf Tryd.f14) := ⟨Tryd.func14, by kernel_rfl, by kernel_rfl, by kernel_rfl, by kernel_rfl, by kernel_rfl⟩
abbrev base_SameBytes_ps : List Pk := [Pk.lst [Kd.int .u8], Pk.lst [Kd.int .u8]]
abbrev base_SameBytes_rs : List Pk := [Pk.bool]
def base_SameBytes_q (a0 : List UInt8) (b1 : List UInt8) (K : Bool → Prop) : Prop :=
 K (a0 == b1)
noncomputable def tab_base_SameBytes : List (Nat × Ct) := []
theorem base_SameBytes_eq : (fun (x : PkTs base_SameBytes_ps) (K : PkTs base_SameBytes_rs → Prop) => base_SameBytes_q x.1 x.2.1 (fun r0 => K (r0, ()))) = fun x K => PCode Tryd.prog tab_base_SameBytes plan_base_SameBytes (bodyOf Tryd.f14) (parS base_SameBytes_ps x) (PRet Tryd.prog Tryd.f14.results.toList fun a st => outP base_SameBytes_rs st a K) := by kernel_rfl
theorem base_SameBytes_fq : FnQ Tryd.prog f_base_SameBytes base_SameBytes_ps base_SameBytes_rs (fun x K => base_SameBytes_q x.1 x.2.1 (fun r0 => K (r0, ()))) := (fnQ_of k_base_SameBytes (tab := tab_base_SameBytes) trivial rfl).of_eq base_SameBytes_eq
noncomputable def ct_base_SameBytes : Ct := ctRd base_SameBytes_ps base_SameBytes_rs (fun x K => base_SameBytes_q x.1 x.2.1 (fun r0 => K (r0, ())))
theorem ct_base_SameBytes_ok : SoundCt Tryd.prog f_base_SameBytes ct_base_SameBytes := ctRd_sound base_SameBytes_fq
def plan_ip_get16 : PPlan := ⟨[], [], [], [], [], []⟩
theorem k_ip_get16 : Known Tryd.prog f_ip_get16 Tryd.f38 plan_ip_get16.plan (bodyOf Tryd.f38) := ⟨Tryd.func38, by kernel_rfl, by kernel_rfl, by kernel_rfl, by kernel_rfl, by kernel_rfl⟩
abbrev ip_get16_ps : List Pk := [Pk.lst [Kd.int .u8]]
abbrev ip_get16_rs : List Pk := [Pk.int .i64]
def ip_get16_q (b0 : List UInt8) (K : Int → Prop) : Prop :=
 (0 : Int) ≤ 0 ∧ AtN b0 0 fun x4 =>
 WfT ks_int_u8 x4 →
 (0 : Int) ≤ 8 ∧
 (0 : Int) ≤ 1 ∧ AtN b0 1 fun x9 =>
 WfT ks_int_u8 x9 →
 K (bitsOr .i64 (IntKind.wrap .i64 ((IntKind.wrap .i64 (x4.toNat : Int)) * 256)) (IntKind.wrap .i64 (x9.toNat : Int)))
noncomputable def tab_ip_get16 : List (Nat × Ct) := []
theorem ip_get16_eq : (fun (x : PkTs ip_get16_ps) (K : PkTs ip_get16_rs → Prop) => ip_get16_q x.1 (fun r0 => K (r0, ()))) = fun x K => PCode Tryd.prog tab_ip_get16 plan_ip_get16 (bodyOf Tryd.f38) (parS ip_get16_ps x) (PRet Tryd.prog Tryd.f38.results.toList fun a st => outP ip_get16_rs st a K) := by kernel_rfl
theorem ip_get16_fq : FnQ Tryd.prog f_ip_get16 ip_get16_ps ip_get16_rs (fun x K => ip_get16_q x.1 (fun r0 => K (r0, ()))) := (fnQ_of k_ip_get16 (tab := tab_ip_get16) trivial rfl).of_eq ip_get16_eq
noncomputable def ct_ip_get16 : Ct := ctRd ip_get16_ps ip_get16_rs (fun x K => ip_get16_q x.1 (fun r0 => K (r0, ())))
theorem ct_ip_get16_ok : SoundCt Tryd.prog f_ip_get16 ct_ip_get16 := ctRd_sound ip_get16_fq
def plan_sum_Right : PPlan := ⟨[], [], [], [], [], []⟩
theorem k_sum_Right : Known Tryd.prog f_sum_Right Tryd.f39 plan_sum_Right.plan (bodyOf Tryd.f39) := ⟨Tryd.func39, by kernel_rfl, by kernel_rfl, by kernel_rfl, by kernel_rfl, by kernel_rfl⟩
abbrev sum_Right_ps : List Pk := [Pk.lst [Kd.int .u8]]
abbrev sum_Right_rs : List Pk := [Pk.bool]
def sum_Right_q (b0 : List UInt8) (K : Bool → Prop) : Prop :=
 (WfPs sum_Add_ps ((0 : Int), b0, ()) →
 sum_Add_q (0 : Int) b0 (fun x4 =>
 WfPs sum_Add_rs (x4, ()) →
 K ((x4 : Int) == 65535)))
noncomputable def tab_sum_Right : List (Nat × Ct) := [(f_sum_Add, ct_sum_Add)]
theorem sum_Right_eq : (fun (x : PkTs sum_Right_ps) (K : PkTs sum_Right_rs → Prop) => sum_Right_q x.1 (fun r0 => K (r0, ()))) = fun x K => PCode Tryd.prog tab_sum_Right plan_sum_Right (bodyOf Tryd.f39) (parS sum_Right_ps x) (PRet Tryd.prog Tryd.f39.results.toList fun a st => outP sum_Right_rs st a K) := by kernel_rfl
theorem sum_Right_fq : FnQ Tryd.prog f_sum_Right sum_Right_ps sum_Right_rs (fun x K => sum_Right_q x.1 (fun r0 => K (r0, ()))) := (fnQ_of k_sum_Right (tab := tab_sum_Right) ⟨ct_sum_Add_ok, trivial⟩ rfl).of_eq sum_Right_eq
noncomputable def ct_sum_Right : Ct := ctRd sum_Right_ps sum_Right_rs (fun x K => sum_Right_q x.1 (fun r0 => K (r0, ())))
theorem ct_sum_Right_ok : SoundCt Tryd.prog f_sum_Right ct_sum_Right := ctRd_sound sum_Right_fq
def plan_ip_get32 : PPlan := ⟨[(1, [0, 4, 5, 1, 2, 3, 6, 7, 8, 9], [])], [], [], [], [], []⟩
theorem k_ip_get32 : Known Tryd.prog f_ip_get32 Tryd.f40 plan_ip_get32.plan (bodyOf Tryd.f40) := ⟨Tryd.func40, by kernel_rfl, by kernel_rfl, by kernel_rfl, by kernel_rfl, by kernel_rfl⟩
abbrev ip_get32_ps : List Pk := [Pk.lst [Kd.int .u8]]
abbrev ip_get32_rs : List Pk := [Pk.int .u32]
def ip_get32_q (b0 : List UInt8) (K : Int → Prop) : Prop :=
 (0 : Int) ≤ 2 ∧ 2 ≤ (b0.length : Int) ∧
 (WfPs ip_get16_ps (b0, ()) →
 ip_get16_q b0 (fun x4 =>
 WfPs ip_get16_rs (x4, ()) →
 (0 : Int) ≤ 16 ∧
 (WfPs ip_get16_ps ((b0.drop 2), ()) →
 ip_get16_q (b0.drop 2) (fun x9 =>
 WfPs ip_get16_rs (x9, ()) →
 K (bitsOr .u32 (IntKind.wrap .u32 ((IntKind.wrap .u32 x4) * 65536)) (IntKind.wrap .u32 x9))))))
noncomputable def tab_ip_get32 : List (Nat × Ct) := [(f_ip_get16, ct_ip_get16)]
theorem ip_get32_eq : (fun (x : PkTs ip_get32_ps) (K : PkTs ip_get32_rs → Prop) => ip_get32_q x.1 (fun r0 => K (r0, ()))) = fun x K => PCode Tryd.prog tab_ip_get32 plan_ip_get32 (bodyOf Tryd.f40) (parS ip_get32_ps x) (PRet Tryd.prog Tryd.f40.results.toList fun a st => outP ip_get32_rs st a K) := by kernel_rfl
theorem ip_get32_fq : FnQ Tryd.prog f_ip_get32 ip_get32_ps ip_get32_rs (fun x K => ip_get32_q x.1 (fun r0 => K (r0, ()))) := (fnQ_of k_ip_get32 (tab := tab_ip_get32) ⟨ct_ip_get16_ok, trivial⟩ rfl).of_eq ip_get32_eq
noncomputable def ct_ip_get32 : Ct := ctRd ip_get32_ps ip_get32_rs (fun x K => ip_get32_q x.1 (fun r0 => K (r0, ())))
theorem ct_ip_get32_ok : SoundCt Tryd.prog f_ip_get32 ct_ip_get32 := ctRd_sound ip_get32_fq
def plan_ip_Read : PPlan := ⟨[(3, [0, 1, 2, 3, 4, 5, 6, 7, 9, 10, 8, 11, 12, 13, 14], [19]), (7, [0, 1, 3, 4, 5, 6, 7, 8, 9, 10, 11, 12, 13, 14, 15, 16, 17, 18, 19, 20, 22, 23, 26, 27, 28, 29, 25, 2, 21, 24, 30, 31, 32, 33], [66, 70])], [], [], [], [], [(7, ⟨25, [5, 6, 7, 9, 10, 11], [0, 1, 3, 4, 8, 12, 13, 14, 15, 16, 17, 18, 19, 20, 22, 23, 26, 27, 28, 29, 2, 21, 24], [30], [31, 32, 33], [2, 21, 24]⟩)]⟩
theorem k_ip_Read : Known Tryd.prog f_ip_Read Tryd.f16 plan_ip_Read.plan (bodyOf Tryd.f16) := ⟨Tryd.func16, by kernel_rfl, by kernel_rfl, by kernel_rfl, by kernel_rfl, by kernel_rfl⟩
abbrev ip_Read_ps : List Pk := [Pk.lst [Kd.int .u8]]
abbrev ip_Read_rs : List Pk := [Pk.agg [Kd.int .i64, Kd.int .i64, Kd.int .i64, Kd.int .i64, Kd.bool, Kd.bool, Kd.int .u32, Kd.int .u32, Kd.lst [Kd.int .u8]], Pk.int .i64]
def ip_Read_j2  (K : (Int × Int × Int × Int × Bool × Bool × UInt32 × UInt32 × List UInt8) → Int → Prop) : Prop :=
 K (0, 0, 0, 0, false, false, (ofI .u32 0), (ofI .u32 0), ([] : List UInt8)) 70
def ip_Read_j1  (K : (Int × Int × Int × Int × Bool × Bool × UInt32 × UInt32 × List UInt8) → Int → Prop) : Prop :=
 ip_Read_j2 K
def ip_Read_j3 (b0 : List UInt8) (x18 : UInt8) (x25 : Int) (x28 : Int) (j13 : Bool) (K : (Int × Int × Int × Int × Bool × Bool × UInt32 × UInt32 × List UInt8) → Int → Prop) : Prop :=
 IfB j13
 (ip_Read_j1 K)
 ((0 : Int) ≤ (IntKind.wrap .i64 (4 * (IntKind.wrap .i64 (bitsAnd .u8 (x18.toNat : Int) 15)))) ∧ (IntKind.wrap .i64 (4 * (IntKind.wrap .i64 (bitsAnd .u8 (x18.toNat : Int) 15)))) ≤ (b0.length : Int) ∧
 (WfPs sum_Right_ps ((b0.take ((IntKind.wrap .i64 (4 * (IntKind.wrap .i64 (bitsAnd .u8 (x18.toNat : Int) 15)))).toNat)), ()) →
 sum_Right_q (b0.take ((IntKind.wrap .i64 (4 * (IntKind.wrap .i64 (bitsAnd .u8 (x18.toNat : Int) 15)))).toNat)) (fun x56 =>
 WfPs sum_Right_rs (x56, ()) →
 IfB (!x56)
 (K (0, 0, 0, 0, false, false, (ofI .u32 0), (ofI .u32 0), ([] : List UInt8)) 71)
 ((0 : Int) ≤ 8 ∧ AtN b0 8 fun x65 =>
 WfT ks_int_u8 x65 →
 (0 : Int) ≤ 9 ∧ AtN b0 9 fun x69 =>
 WfT ks_int_u8 x69 →
 (0 : Int) ≤ 4 ∧ 4 ≤ (b0.length : Int) ∧
 (0 : Int) ≤ 12 ∧ 12 ≤ (b0.length : Int) ∧
 (0 : Int) ≤ 16 ∧ 16 ≤ (b0.length : Int) ∧
 (0 : Int) ≤ x25 ∧ x25 ≤ (b0.length : Int) ∧
 (0 : Int) ≤ (IntKind.wrap .i64 (4 * (IntKind.wrap .i64 (bitsAnd .u8 (x18.toNat : Int) 15)))) ∧ (IntKind.wrap .i64 (4 * (IntKind.wrap .i64 (bitsAnd .u8 (x18.toNat : Int) 15)))) ≤ (x25.toNat : Int) ∧
 ((WfPs ip_get16_ps ((b0.drop 4), ()) →
 ip_get16_q (b0.drop 4) (fun x61 =>
 WfPs ip_get16_rs (x61, ()) →
 (WfPs ip_get32_ps ((b0.drop 12), ()) →
 ip_get32_q (b0.drop 12) (fun x80 =>
 WfPs ip_get32_rs (x80, ()) →
 (WfPs ip_get32_ps ((b0.drop 16), ()) →
 ip_get32_q (b0.drop 16) (fun x83 =>
 WfPs ip_get32_rs (x83, ()) →
 ([] : List UInt8).length + ((b0.take x25.toNat).drop ((IntKind.wrap .i64 (4 * (IntKind.wrap .i64 (bitsAnd .u8 (x18.toNat : Int) 15)))).toNat)).length ≤ 140737488355232 ∧
 K (x61, (bitsAnd .i64 x28 8191), (IntKind.wrap .i64 (x65.toNat : Int)), (IntKind.wrap .i64 (x69.toNat : Int)), (((bitsAnd .i64 x28 16384) : Int) != 0), (((bitsAnd .i64 x28 8192) : Int) != 0), (ofI .u32 x80), (ofI .u32 x83), (([] : List UInt8) ++ ((b0.take x25.toNat).drop ((IntKind.wrap .i64 (4 * (IntKind.wrap .i64 (bitsAnd .u8 (x18.toNat : Int) 15)))).toNat)))) 0))))))) ∧
 ((WfPs ip_get16_ps ((b0.drop 4), ()) →
 ip_get16_q (b0.drop 4) (fun x61_1 =>
 WfPs ip_get16_rs (x61_1, ()) →
 ((WfPs ip_get32_ps ((b0.drop 12), ()) →
 ip_get32_q (b0.drop 12) (fun x80_1 =>
 WfPs ip_get32_rs (x80_1, ()) →
 (WfPs ip_get32_ps ((b0.drop 16), ()) →
 ip_get32_q (b0.drop 16) (fun x83_1 =>
 WfPs ip_get32_rs (x83_1, ()) →
 ([] : List UInt8).length + ((b0.take x25.toNat).drop ((IntKind.wrap .i64 (4 * (IntKind.wrap .i64 (bitsAnd .u8 (x18.toNat : Int) 15)))).toNat)).length ≤ 140737488355232 ∧
 K (x61_1, (bitsAnd .i64 x28 8191), (IntKind.wrap .i64 (x65.toNat : Int)), (IntKind.wrap .i64 (x69.toNat : Int)), (((bitsAnd .i64 x28 16384) : Int) != 0), (((bitsAnd .i64 x28 8192) : Int) != 0), (ofI .u32 x80_1), (ofI .u32 x83_1), (([] : List UInt8) ++ ((b0.take x25.toNat).drop ((IntKind.wrap .i64 (4 * (IntKind.wrap .i64 (bitsAnd .u8 (x18.toNat : Int) 15)))).toNat)))) 0))))) ∧
 ((WfPs ip_get32_ps ((b0.drop 12), ()) →
 ip_get32_q (b0.drop 12) (fun x80_2 =>
 WfPs ip_get32_rs (x80_2, ()) →
 ((WfPs ip_get32_ps ((b0.drop 16), ()) →
 ip_get32_q (b0.drop 16) (fun x83_2 =>
 WfPs ip_get32_rs (x83_2, ()) →
 ([] : List UInt8).length + ((b0.take x25.toNat).drop ((IntKind.wrap .i64 (4 * (IntKind.wrap .i64 (bitsAnd .u8 (x18.toNat : Int) 15)))).toNat)).length ≤ 140737488355232 ∧
 K (x61_1, (bitsAnd .i64 x28 8191), (IntKind.wrap .i64 (x65.toNat : Int)), (IntKind.wrap .i64 (x69.toNat : Int)), (((bitsAnd .i64 x28 16384) : Int) != 0), (((bitsAnd .i64 x28 8192) : Int) != 0), (ofI .u32 x80_2), (ofI .u32 x83_2), (([] : List UInt8) ++ ((b0.take x25.toNat).drop ((IntKind.wrap .i64 (4 * (IntKind.wrap .i64 (bitsAnd .u8 (x18.toNat : Int) 15)))).toNat)))) 0))) ∧
 ((WfPs ip_get32_ps ((b0.drop 16), ()) →
 ip_get32_q (b0.drop 16) (fun x83_3 =>
 WfPs ip_get32_rs (x83_3, ()) →
 ([] : List UInt8).length + ((b0.take x25.toNat).drop ((IntKind.wrap .i64 (4 * (IntKind.wrap .i64 (bitsAnd .u8 (x18.toNat : Int) 15)))).toNat)).length ≤ 140737488355232 ∧
 K (x61_1, (bitsAnd .i64 x28 8191), (IntKind.wrap .i64 (x65.toNat : Int)), (IntKind.wrap .i64 (x69.toNat : Int)), (((bitsAnd .i64 x28 16384) : Int) != 0), (((bitsAnd .i64 x28 8192) : Int) != 0), (ofI .u32 x80_2), (ofI .u32 x83_3), (([] : List UInt8) ++ ((b0.take x25.toNat).drop ((IntKind.wrap .i64 (4 * (IntKind.wrap .i64 (bitsAnd .u8 (x18.toNat : Int) 15)))).toNat)))) 0)))))))))))))
def ip_Read_j0 (b0 : List UInt8) (j10 : Bool) (K : (Int × Int × Int × Int × Bool × Bool × UInt32 × UInt32 × List UInt8) → Int → Prop) : Prop :=
 IfB j10
 (ip_Read_j1 K)
 ((0 : Int) ≤ 0 ∧ AtN b0 0 fun x18 =>
 WfT ks_int_u8 x18 →
 (0 : Int) ≤ 2 ∧ 2 ≤ (b0.length : Int) ∧
 (0 : Int) ≤ 6 ∧ 6 ≤ (b0.length : Int) ∧
 (WfPs ip_get16_ps ((b0.drop 2), ()) →
 ip_get16_q (b0.drop 2) (fun x25 =>
 WfPs ip_get16_rs (x25, ()) →
 (WfPs ip_get16_ps ((b0.drop 6), ()) →
 ip_get16_q (b0.drop 6) (fun x28 =>
 WfPs ip_get16_rs (x28, ()) →
 IfB (decide (((IntKind.wrap .i64 (4 * (IntKind.wrap .i64 (bitsAnd .u8 (x18.toNat : Int) 15)))) : Int) < 20))
 (ip_Read_j3 b0 x18 x25 x28 true K)
 (IfB (decide (((IntKind.wrap .i64 (4 * (IntKind.wrap .i64 (bitsAnd .u8 (x18.toNat : Int) 15)))) : Int) > (b0.length : Int)))
 (ip_Read_j3 b0 x18 x25 x28 true K)
 (IfB (decide ((x25 : Int) < (IntKind.wrap .i64 (4 * (IntKind.wrap .i64 (bitsAnd .u8 (x18.toNat : Int) 15))))))
 (ip_Read_j3 b0 x18 x25 x28 true K)
 (IfB (decide ((x25 : Int) > (b0.length : Int)))
 (ip_Read_j3 b0 x18 x25 x28 true K)
 (ip_Read_j3 b0 x18 x25 x28 (((bitsAnd .i64 x28 32768) : Int) != 0) K)))))))))
def ip_Read_q (b0 : List UInt8) (K : (Int × Int × Int × Int × Bool × Bool × UInt32 × UInt32 × List UInt8) → Int → Prop) : Prop :=
 IfB (decide (((b0.length : Int) : Int) < 20))
 (ip_Read_j0 b0 true K)
 ((0 : Int) ≤ 0 ∧ AtN b0 0 fun x12 =>
 WfT ks_int_u8 x12 →
 (0 : Int) ≤ 4 ∧
 ip_Read_j0 b0 (((Int.fdiv (x12.toNat : Int) 16) : Int) != 4) K)
noncomputable def tab_ip_Read : List (Nat × Ct) := [(f_ip_get16, ct_ip_get16), (f_sum_Right, ct_sum_Right), (f_ip_get32, ct_ip_get32)]
theorem ip_Read_eq : (fun (x : PkTs ip_Read_ps) (K : PkTs ip_Read_rs → Prop) => ip_Read_q x.1 (fun r0 r1 => K (r0, r1, ()))) = fun x K => PCode Tryd.prog tab_ip_Read plan_ip_Read (bodyOf Tryd.f16) (parS ip_Read_ps x) (PRet Tryd.prog Tryd.f16.results.toList fun a st => outP ip_Read_rs st a K) := by kernel_rfl
theorem ip_Read_fq : FnQ Tryd.prog f_ip_Read ip_Read_ps ip_Read_rs (fun x K => ip_Read_q x.1 (fun r0 r1 => K (r0, r1, ()))) := (fnQ_of k_ip_Read (tab := tab_ip_Read) ⟨ct_ip_get16_ok, ct_sum_Right_ok, ct_ip_get32_ok, trivial⟩ rfl).of_eq ip_Read_eq
noncomputable def ct_ip_Read : Ct := ctVal ip_Read_ps ip_Read_rs (fun x K => ip_Read_q x.1 (fun r0 r1 => K (r0, r1, ())))
theorem ct_ip_Read_ok : SoundCt Tryd.prog f_ip_Read ct_ip_Read := ctVal_sound ip_Read_fq
def plan_internal_strconv_small : PPlan := ⟨[], [], [], [], [], []⟩
theorem k_internal_strconv_small : Known Tryd.prog f_internal_strconv_small Tryd.f81 plan_internal_strconv_small.plan (bodyOf Tryd.f81) := ⟨Tryd.func81, by kernel_rfl, by kernel_rfl, by kernel_rfl, by kernel_rfl, by kernel_rfl⟩
abbrev internal_strconv_small_ps : List Pk := [Pk.int .i64]
abbrev internal_strconv_small_rs : List Pk := [Pk.str]
def internal_strconv_small_q (i0 : Int) (K : List UInt8 → Prop) : Prop :=
 IfB (decide ((i0 : Int) < 10))
 ((0 : Int) ≤ (IntKind.wrap .i64 (i0 + 1)) ∧ (IntKind.wrap .i64 (i0 + 1)) ≤ (([48, 49, 50, 51, 52, 53, 54, 55, 56, 57, 97, 98, 99, 100, 101, 102, 103, 104, 105, 106, 107, 108, 109, 110, 111, 112, 113, 114, 115, 116, 117, 118, 119, 120, 121, 122] : List UInt8).length : Int) ∧
 (0 : Int) ≤ i0 ∧ i0 ≤ ((IntKind.wrap .i64 (i0 + 1)).toNat : Int) ∧
 K ((([48, 49, 50, 51, 52, 53, 54, 55, 56, 57, 97, 98, 99, 100, 101, 102, 103, 104, 105, 106, 107, 108, 109, 110, 111, 112, 113, 114, 115, 116, 117, 118, 119, 120, 121, 122] : List UInt8).take ((IntKind.wrap .i64 (i0 + 1)).toNat)).drop i0.toNat))
 ((0 : Int) ≤ (IntKind.wrap .i64 ((IntKind.wrap .i64 (i0 * 2)) + 2)) ∧ (IntKind.wrap .i64 ((IntKind.wrap .i64 (i0 * 2)) + 2)) ≤ (([48, 48, 48, 49, 48, 50, 48, 51, 48, 52, 48, 53, 48, 54, 48, 55, 48, 56, 48, 57, 49, 48, 49, 49, 49, 50, 49, 51, 49, 52, 49, 53, 49, 54, 49, 55, 49, 56, 49, 57, 50, 48, 50, 49, 50, 50, 50, 51, 50, 52, 50, 53, 50, 54, 50, 55, 50, 56, 50, 57, 51, 48, 51, 49, 51, 50, 51, 51, 51, 52, 51, 53, 51, 54, 51, 55, 51, 56, 51, 57, 52, 48, 52, 49, 52, 50, 52, 51, 52, 52, 52, 53, 52, 54, 52, 55, 52, 56, 52, 57, 53, 48, 53, 49, 53, 50, 53, 51, 53, 52, 53, 53, 53, 54, 53, 55, 53, 56, 53, 57, 54, 48, 54, 49, 54, 50, 54, 51, 54, 52, 54, 53, 54, 54, 54, 55, 54, 56, 54, 57, 55, 48, 55, 49, 55, 50, 55, 51, 55, 52, 55, 53, 55, 54, 55, 55, 55, 56, 55, 57, 56, 48, 56, 49, 56, 50, 56, 51, 56, 52, 56, 53, 56, 54, 56, 55, 56, 56, 56, 57, 57, 48, 57, 49, 57, 50, 57, 51, 57, 52, 57, 53, 57, 54, 57, 55, 57, 56, 57, 57] : List UInt8).length : Int) ∧
 (0 : Int) ≤ (IntKind.wrap .i64 (i0 * 2)) ∧ (IntKind.wrap .i64 (i0 * 2)) ≤ ((IntKind.wrap .i64 ((IntKind.wrap .i64 (i0 * 2)) + 2)).toNat : Int) ∧
 K ((([48, 48, 48, 49, 48, 50, 48, 51, 48, 52, 48, 53, 48, 54, 48, 55, 48, 56, 48, 57, 49, 48, 49, 49, 49, 50, 49, 51, 49, 52, 49, 53, 49, 54, 49, 55, 49, 56, 49, 57, 50, 48, 50, 49, 50, 50, 50, 51, 50, 52, 50, 53, 50, 54, 50, 55, 50, 56, 50, 57, 51, 48, 51, 49, 51, 50, 51, 51, 51, 52, 51, 53, 51, 54, 51, 55, 51, 56, 51, 57, 52, 48, 52, 49, 52, 50, 52, 51, 52, 52, 52, 53, 52, 54, 52, 55, 52, 56, 52, 57, 53, 48, 53, 49, 53, 50, 53, 51, 53, 52, 53, 53, 53, 54, 53, 55, 53, 56, 53, 57, 54, 48, 54, 49, 54, 50, 54, 51, 54, 52, 54, 53, 54, 54, 54, 55, 54, 56, 54, 57, 55, 48, 55, 49, 55, 50, 55, 51, 55, 52, 55, 53, 55, 54, 55, 55, 55, 56, 55, 57, 56, 48, 56, 49, 56, 50, 56, 51, 56, 52, 56, 53, 56, 54, 56, 55, 56, 56, 56, 57, 57, 48, 57, 49, 57, 50, 57, 51, 57, 52, 57, 53, 57, 54, 57, 55, 57, 56, 57, 57] : List UInt8).take ((IntKind.wrap .i64 ((IntKind.wrap .i64 (i0 * 2)) + 2)).toNat)).drop ((IntKind.wrap .i64 (i0 * 2)).toNat)))
noncomputable def tab_internal_strconv_small : List (Nat × Ct) := []
theorem internal_strconv_small_eq : (fun (x : PkTs internal_strconv_small_ps) (K : PkTs internal_strconv_small_rs → Prop) => internal_strconv_small_q x.1 (fun r0 => K (r0, ()))) = fun x K => PCode Tryd.prog tab_internal_strconv_small plan_internal_strconv_small (bodyOf Tryd.f81) (parS internal_strconv_small_ps x) (PRet Tryd.prog Tryd.f81.results.toList fun a st => outP internal_strconv_small_rs st a K) := by kernel_rfl
theorem internal_strconv_small_fq : FnQ Tryd.prog f_internal_strconv_small internal_strconv_small_ps internal_strconv_small_rs (fun x K => internal_strconv_small_q x.1 (fun r0 => K (r0, ()))) := (fnQ_of k_internal_strconv_small (tab := tab_internal_strconv_small) trivial rfl).of_eq internal_strconv_small_eq
noncomputable def ct_internal_strconv_small : Ct := ctRd internal_strconv_small_ps internal_strconv_small_rs (fun x K => internal_strconv_small_q x.1 (fun r0 => K (r0, ())))
theorem ct_internal_strconv_small_ok : SoundCt Tryd.prog f_internal_strconv_small ct_internal_strconv_small := ctRd_sound internal_strconv_small_fq
def plan_internal_strconv_log10Pow2 : PPlan := ⟨[], [], [], [], [], []⟩
theorem k_internal_strconv_log10Pow2 : Known Tryd.prog f_internal_strconv_log10Pow2 Tryd.f95 plan_internal_strconv_log10Pow2.plan (bodyOf Tryd.f95) := ⟨Tryd.func95, by kernel_rfl, by kernel_rfl, by kernel_rfl, by kernel_rfl, by kernel_rfl⟩
abbrev internal_strconv_log10Pow2_ps : List Pk := [Pk.int .i64]
abbrev internal_strconv_log10Pow2_rs : List Pk := [Pk.int .i64]
def internal_strconv_log10Pow2_q (x0 : Int) (K : Int → Prop) : Prop :=
 (0 : Int) ≤ 18 ∧
 K (Int.fdiv (IntKind.wrap .i64 (x0 * 78913)) 262144)
noncomputable def tab_internal_strconv_log10Pow2 : List (Nat × Ct) := []
theorem internal_strconv_log10Pow2_eq : (fun (x : PkTs internal_strconv_log10Pow2_ps) (K : PkTs internal_strconv_log10Pow2_rs → Prop) => internal_strconv_log10Pow2_q x.1 (fun r0 => K (r0, ()))) = fun x K => PCode Tryd.prog tab_internal_strconv_log10Pow2 plan_internal_strconv_log10Pow2 (bodyOf Tryd.f95) (parS internal_strconv_log10Pow2_ps x) (PRet Tryd.prog Tryd.f95.results.toList fun a st => outP internal_strconv_log10Pow2_rs st a K) := by kernel_rfl
theorem internal_strconv_log10Pow2_fq : FnQ Tryd.prog f_internal_strconv_log10Pow2 internal_strconv_log10Pow2_ps internal_strconv_log10Pow2_rs (fun x K => internal_strconv_log10Pow2_q x.1 (fun r0 => K (r0, ()))) := (fnQ_of k_internal_strconv_log10Pow2 (tab := tab_internal_strconv_log10Pow2) trivial rfl).of_eq internal_strconv_log10Pow2_eq
noncomputable def ct_internal_strconv_log10Pow2 : Ct := ctRd internal_strconv_log10Pow2_ps internal_strconv_log10Pow2_rs (fun x K => internal_strconv_log10Pow2_q x.1 (fun r0 => K (r0, ())))
theorem ct_internal_strconv_log10Pow2_ok : SoundCt Tryd.prog f_internal_strconv_log10Pow2 ct_internal_strconv_log10Pow2 := ctRd_sound internal_strconv_log10Pow2_fq
def plan_math_bits_Len64 : PPlan := ⟨[], [], [], [], [], []⟩
theorem k_math_bits_Len64 : Known Tryd.prog f_math_bits_Len64 Tryd.f96 plan_math_bits_Len64.plan (bodyOf Tryd.f96) := ⟨Tryd.func96, by kernel_rfl, by kernel_rfl, by kernel_rfl, by kernel_rfl, by kernel_rfl⟩
abbrev math_bits_Len64_ps : List Pk := [Pk.int .u64]
abbrev math_bits_Len64_rs : List Pk := [Pk.int .i64]
def math_bits_Len64_j2 (j0_2 : Int) (j1_2 : Int) (K : Int → Prop) : Prop :=
 (0 : Int) ≤ (IntKind.wrap .u8 j0_2) ∧ AtN ([0, 1, 2, 2, 3, 3, 3, 3, 4, 4, 4, 4, 4, 4, 4, 4, 5, 5, 5, 5, 5, 5, 5, 5, 5, 5, 5, 5, 5, 5, 5, 5, 6, 6, 6, 6, 6, 6, 6, 6, 6, 6, 6, 6, 6, 6, 6, 6, 6, 6, 6, 6, 6, 6, 6, 6, 6, 6, 6, 6, 6, 6, 6, 6, 7, 7, 7, 7, 7, 7, 7, 7, 7, 7, 7, 7, 7, 7, 7, 7, 7, 7, 7, 7, 7, 7, 7, 7, 7, 7, 7, 7, 7, 7, 7, 7, 7, 7, 7, 7, 7, 7, 7, 7, 7, 7, 7, 7, 7, 7, 7, 7, 7, 7, 7, 7, 7, 7, 7, 7, 7, 7, 7, 7, 7, 7, 7, 7, 8, 8, 8, 8, 8, 8, 8, 8, 8, 8, 8, 8, 8, 8, 8, 8, 8, 8, 8, 8, 8, 8, 8, 8, 8, 8, 8, 8, 8, 8, 8, 8, 8, 8, 8, 8, 8, 8, 8, 8, 8, 8, 8, 8, 8, 8, 8, 8, 8, 8, 8, 8, 8, 8, 8, 8, 8, 8, 8, 8, 8, 8, 8, 8, 8, 8, 8, 8, 8, 8, 8, 8, 8, 8, 8, 8, 8, 8, 8, 8, 8, 8, 8, 8, 8, 8, 8, 8, 8, 8, 8, 8, 8, 8, 8, 8, 8, 8, 8, 8, 8, 8, 8, 8, 8, 8, 8, 8, 8, 8, 8, 8, 8, 8, 8, 8, 8, 8, 8, 8, 8, 8, 8, 8, 8, 8, 8, 8] : List UInt8) (IntKind.wrap .u8 j0_2).toNat fun x22 =>
 K (IntKind.wrap .i64 (j1_2 + (IntKind.wrap .i64 (x22.toNat : Int))))
def math_bits_Len64_j1 (j0_1 : Int) (j1_1 : Int) (K : Int → Prop) : Prop :=
 IfB (decide ((j0_1 : Int) ≥ 256))
 ((0 : Int) ≤ 8 ∧
 math_bits_Len64_j2 (Int.fdiv j0_1 256) (IntKind.wrap .i64 (j1_1 + 8)) K)
 (math_bits_Len64_j2 j0_1 j1_1 K)
def math_bits_Len64_j0 (j0 : Int) (j1 : Int) (K : Int → Prop) : Prop :=
 IfB (decide ((j0 : Int) ≥ 65536))
 ((0 : Int) ≤ 16 ∧
 math_bits_Len64_j1 (Int.fdiv j0 65536) (IntKind.wrap .i64 (j1 + 16)) K)
 (math_bits_Len64_j1 j0 j1 K)
def math_bits_Len64_q (x0 : Int) (K : Int → Prop) : Prop :=
 IfB (decide ((x0 : Int) ≥ 4294967296))
 ((0 : Int) ≤ 32 ∧
 math_bits_Len64_j0 (Int.fdiv x0 4294967296) 32 K)
 (math_bits_Len64_j0 x0 0 K)
noncomputable def tab_math_bits_Len64 : List (Nat × Ct) := []
theorem math_bits_Len64_eq : (fun (x : PkTs math_bits_Len64_ps) (K : PkTs math_bits_Len64_rs → Prop) => math_bits_Len64_q x.1 (fun r0 => K (r0, ()))) = fun x K => PCode Tryd.prog tab_math_bits_Len64 plan_math_bits_Len64 (bodyOf Tryd.f96) (parS math_bits_Len64_ps x) (PRet Tryd.prog Tryd.f96.results.toList fun a st => outP math_bits_Len64_rs st a K) := by kernel_rfl
theorem math_bits_Len64_fq : FnQ Tryd.prog f_math_bits_Len64 math_bits_Len64_ps math_bits_Len64_rs (fun x K => math_bits_Len64_q x.1 (fun r0 => K (r0, ()))) := (fnQ_of k_math_bits_Len64 (tab := tab_math_bits_Len64) trivial rfl).of_eq math_bits_Len64_eq
noncomputable def ct_math_bits_Len64 : Ct := ctRd math_bits_Len64_ps math_bits_Len64_rs (fun x K => math_bits_Len64_q x.1 (fun r0 => K (r0, ())))
theorem ct_math_bits_Len64_ok : SoundCt Tryd.prog f_math_bits_Len64 ct_math_bits_Len64 := ctRd_sound math_bits_Len64_fq
def plan_internal_strconv_bool2aint : PPlan := ⟨[], [], [], [], [], []⟩
theorem k_internal_strconv_bool2aint : Known Tryd.prog f_internal_strconv_bool2aint Tryd.f97 plan_internal_strconv_bool2aint.plan (bodyOf Tryd.f97) := ⟨Tryd.func97, by kernel_rfl, by kernel_rfl, by kernel_rfl, by kernel_rfl, by kernel_rfl⟩
abbrev internal_strconv_bool2aint_ps : List Pk := [Pk.bool]
abbrev internal_strconv_bool2aint_rs : List Pk := [Pk.int .i64]
def internal_strconv_bool2aint_q (b0 : Bool) (K : Int → Prop) : Prop :=
 IfB b0
 (K 1)
 (K 0)
noncomputable def tab_internal_strconv_bool2aint : List (Nat × Ct) := []
theorem internal_strconv_bool2aint_eq : (fun (x : PkTs internal_strconv_bool2aint_ps) (K : PkTs internal_strconv_bool2aint_rs → Prop) => internal_strconv_bool2aint_q x.1 (fun r0 => K (r0, ()))) = fun x K => PCode Tryd.prog tab_internal_strconv_bool2aint plan_internal_strconv_bool2aint (bodyOf Tryd.f97) (parS internal_strconv_bool2aint_ps x) (PRet Tryd.prog Tryd.f97.results.toList fun a st => outP internal_strconv_bool2aint_rs st a K) := by kernel_rfl
theorem internal_strconv_bool2aint_fq : FnQ Tryd.prog f_internal_strconv_bool2aint internal_strconv_bool2aint_ps internal_strconv_bool2aint_rs (fun x K => internal_strconv_bool2aint_q x.1 (fun r0 => K (r0, ()))) := (fnQ_of k_internal_strconv_bool2aint (tab := tab_internal_strconv_bool2aint) trivial rfl).of_eq internal_strconv_bool2aint_eq
noncomputable def ct_internal_strconv_bool2aint : Ct := ctRd internal_strconv_bool2aint_ps internal_strconv_bool2aint_rs (fun x K => internal_strconv_bool2aint_q x.1 (fun r0 => K (r0, ())))
theorem ct_internal_strconv_bool2aint_ok : SoundCt Tryd.prog f_internal_strconv_bool2aint ct_internal_strconv_bool2aint := ctRd_sound internal_strconv_bool2aint_fq
def plan_internal_strconv_isPowerOfTwo : PPlan := ⟨[], [], [], [], [], []⟩
theorem k_internal_strconv_isPowerOfTwo : Known Tryd.prog f_internal_strconv_isPowerOfTwo Tryd.f98 plan_internal_strconv_isPowerOfTwo.plan (bodyOf Tryd.f98) := ⟨Tryd.func98, by kernel_rfl, by kernel_rfl, by kernel_rfl, by kernel_rfl, by kernel_rfl⟩
abbrev internal_strconv_isPowerOfTwo_ps : List Pk := [Pk.int .i64]
abbrev internal_strconv_isPowerOfTwo_rs : List Pk := [Pk.bool]
def internal_strconv_isPowerOfTwo_q (x0 : Int) (K : Bool → Prop) : Prop :=
 K (((bitsAnd .i64 x0 (IntKind.wrap .i64 (x0 - 1))) : Int) == 0)
noncomputable def tab_internal_strconv_isPowerOfTwo : List (Nat × Ct) := []
theorem internal_strconv_isPowerOfTwo_eq : (fun (x : PkTs internal_strconv_isPowerOfTwo_ps) (K : PkTs internal_strconv_isPowerOfTwo_rs → Prop) => internal_strconv_isPowerOfTwo_q x.1 (fun r0 => K (r0, ()))) = fun x K => PCode Tryd.prog tab_internal_strconv_isPowerOfTwo plan_internal_strconv_isPowerOfTwo (bodyOf Tryd.f98) (parS internal_strconv_isPowerOfTwo_ps x) (PRet Tryd.prog Tryd.f98.results.toList fun a st => outP internal_strconv_isPowerOfTwo_rs st a K) := by kernel_rfl
theorem internal_strconv_isPowerOfTwo_fq : FnQ Tryd.prog f_internal_strconv_isPowerOfTwo internal_strconv_isPowerOfTwo_ps internal_strconv_isPowerOfTwo_rs (fun x K => internal_strconv_isPowerOfTwo_q x.1 (fun r0 => K (r0, ()))) := (fnQ_of k_internal_strconv_isPowerOfTwo (tab := tab_internal_strconv_isPowerOfTwo) trivial rfl).of_eq internal_strconv_isPowerOfTwo_eq
noncomputable def ct_internal_strconv_isPowerOfTwo : Ct := ctRd internal_strconv_isPowerOfTwo_ps internal_strconv_isPowerOfTwo_rs (fun x K => internal_strconv_isPowerOfTwo_q x.1 (fun r0 => K (r0, ())))
theorem ct_internal_strconv_isPowerOfTwo_ok : SoundCt Tryd.prog f_internal_strconv_isPowerOfTwo ct_internal_strconv_isPowerOfTwo := ctRd_sound internal_strconv_isPowerOfTwo_fq
def pl_ip_Text_3 : PLoop := ⟨[(3, PK.row T_string [Kd.str]), (4, PK.int .i64)], [0], none⟩
def plan_ip_Text : PPlan := ⟨[], [(3, pl_ip_Text_3)], [], [], [], []⟩
theorem k_ip_Text : Known Tryd.prog f_ip_Text Tryd.f25 plan_ip_Text.plan (bodyOf Tryd.f25) := ⟨Tryd.func25, by kernel_rfl, by kernel_rfl, by kernel_rfl, by kernel_rfl, by kernel_rfl⟩
abbrev ip_Text_ps : List Pk := [Pk.int .u32]
abbrev ip_Text_rs : List Pk := [Pk.str]
def ip_Text_l3 (a0 : Int) (l3 : List (List UInt8)) (k4 : Int) (next3 : (List (List UInt8) × Int × Unit) → Prop) (K : List UInt8 → Prop) : Prop :=
 IfB (decide ((k4 : Int) ≥ 0))
 ((0 : Int) ≤ (IntKind.wrap .i64 (8 * k4)) ∧
 (WfPs strconv_Itoa_ps ((IntKind.wrap .i64 (bitsAnd .u32 (Int.fdiv a0 (2 ^ (min ((IntKind.wrap .i64 (8 * k4)) : Int).toNat (IntKind.bits .u32)))) 255)), ()) →
 strconv_Itoa_q (IntKind.wrap .i64 (bitsAnd .u32 (Int.fdiv a0 (2 ^ (min ((IntKind.wrap .i64 (8 * k4)) : Int).toNat (IntKind.bits .u32)))) 255)) (fun x16 =>
 WfPs strconv_Itoa_rs (x16, ()) →
 l3.length + ([x16] : List (List UInt8)).length ≤ 8796093022112 ∧
 next3 ((l3 ++ ([x16] : List (List UInt8))), (IntKind.wrap .i64 (k4 - 1)), ()))))
 ((WfPs strings_Join_ps (l3, ([46] : List UInt8), ()) →
 strings_Join_q l3 ([46] : List UInt8) (fun x20 =>
 WfPs strings_Join_rs (x20, ()) →
 K x20)))
def ip_Text_q (a0 : Int) (K : List UInt8 → Prop) : Prop :=
 LoopJ (List (List UInt8) × Int × Unit) (([] : List (List UInt8)), (3 : Int), ()) fun y next =>
 WfY pl_ip_Text_3.kinds y →
 ip_Text_l3 a0 y.1 y.2.1 next K
noncomputable def tab_ip_Text : List (Nat × Ct) := [(f_strconv_Itoa, ct_strconv_Itoa), (f_strings_Join, ct_strings_Join)]
theorem ip_Text_eq : (fun (x : PkTs ip_Text_ps) (K : PkTs ip_Text_rs → Prop) => ip_Text_q x.1 (fun r0 => K (r0, ()))) = fun x K => PCode Tryd.prog tab_ip_Text plan_ip_Text (bodyOf Tryd.f25) (parS ip_Text_ps x) (PRet Tryd.prog Tryd.f25.results.toList fun a st => outP ip_Text_rs st a K) := by kernel_rfl
theorem ip_Text_fq : FnQ Tryd.prog f_ip_Text ip_Text_ps ip_Text_rs (fun x K => ip_Text_q x.1 (fun r0 => K (r0, ()))) := (fnQ_of k_ip_Text (tab := tab_ip_Text) ⟨ct_strconv_Itoa_ok, ct_strings_Join_ok, trivial⟩ rfl).of_eq ip_Text_eq
noncomputable def ct_ip_Text : Ct := ctRd ip_Text_ps ip_Text_rs (fun x K => ip_Text_q x.1 (fun r0 => K (r0, ())))
theorem ct_ip_Text_ok : SoundCt Tryd.prog f_ip_Text ct_ip_Text := ctRd_sound ip_Text_fq
def plan_law07_works : PPlan := ⟨[], [], [], [], [], []⟩
theorem k_law07_works : Known Tryd.prog f_law07_works Tryd.f15 plan_law07_works.plan (bodyOf Tryd.f15) := ⟨Tryd.func15, by kernel_rfl, by kernel_rfl, by kernel_rfl, by kernel_rfl, by kernel_rfl⟩
abbrev law07_works_ps : List Pk := []
abbrev law07_works_rs : List Pk := [Pk.bool]
def law07_works_q  (K : Bool → Prop) : Prop :=
 (WfPs ip_Build_ps (((0, 0, 9, 6, false, false, (ofI .u32 1), (ofI .u32 2), ([(ofI .u8 7)] : List UInt8)) : Int × Int × Int × Int × Bool × Bool × UInt32 × UInt32 × List UInt8), ()) →
 ip_Build_q ((0, 0, 9, 6, false, false, (ofI .u32 1), (ofI .u32 2), ([(ofI .u8 7)] : List UInt8)) : Int × Int × Int × Int × Bool × Bool × UInt32 × UInt32 × List UInt8) (fun x8r0 x8r1 =>
 WfPs ip_Build_rs (x8r0, x8r1, ()) →
 (WfPs ip_Read_ps (x8r0, ()) →
 ip_Read_q x8r0 (fun x13r0 x13r1 =>
 WfPs ip_Read_rs (x13r0, x13r1, ()) →
 (WfPs ip_Text_ps ((167772161 : Int), ()) →
 ip_Text_q (167772161 : Int) (fun x16 =>
 WfPs ip_Text_rs (x16, ()) →
 IfB (x16 == ([49, 48, 46, 48, 46, 48, 46, 49] : List UInt8))
 (IfB ((x8r1 : Int) == 0)
 (IfB ((x13r1 : Int) == 0)
 (IfB (((x8r0.length : Int) : Int) == 21)
 (IfB ((x13r0.2.2.1 : Int) == 9)
 ((WfPs base_SameBytes_ps (x13r0.2.2.2.2.2.2.2.2, ([(ofI .u8 7)] : List UInt8), ()) →
 base_SameBytes_q x13r0.2.2.2.2.2.2.2.2 ([(ofI .u8 7)] : List UInt8) (fun x40 =>
 WfPs base_SameBytes_rs (x40, ()) →
 K x40)))
 (K false))
 (K false))
 (K false))
 (K false))
 (K false)))))))
noncomputable def tab_law07_works : List (Nat × Ct) := [(f_ip_Build, ct_ip_Build), (f_base_SameBytes, ct_base_SameBytes), (f_ip_Read, ct_ip_Read), (f_ip_Text, ct_ip_Text)]
theorem law07_works_eq : (fun (x : PkTs law07_works_ps) (K : PkTs law07_works_rs → Prop) => law07_works_q  (fun r0 => K (r0, ()))) = fun x K => PCode Tryd.prog tab_law07_works plan_law07_works (bodyOf Tryd.f15) (parS law07_works_ps x) (PRet Tryd.prog Tryd.f15.results.toList fun a st => outP law07_works_rs st a K) := by kernel_rfl
theorem law07_works_fq : FnQ Tryd.prog f_law07_works law07_works_ps law07_works_rs (fun x K => law07_works_q  (fun r0 => K (r0, ()))) := (fnQ_of k_law07_works (tab := tab_law07_works) ⟨ct_ip_Build_ok, ct_base_SameBytes_ok, ct_ip_Read_ok, ct_ip_Text_ok, trivial⟩ rfl).of_eq law07_works_eq
noncomputable def ct_law07_works : Ct := ctRd law07_works_ps law07_works_rs (fun x K => law07_works_q  (fun r0 => K (r0, ())))
theorem ct_law07_works_ok : SoundCt Tryd.prog f_law07_works ct_law07_works := ctRd_sound law07_works_fq
def plan_internal_bytealg_Cutover : PPlan := ⟨[], [], [], [], [], []⟩
theorem k_internal_bytealg_Cutover : Known Tryd.prog f_internal_bytealg_Cutover Tryd.f90 plan_internal_bytealg_Cutover.plan (bodyOf Tryd.f90) := ⟨Tryd.func90, by kernel_rfl, by kernel_rfl, by kernel_rfl, by kernel_rfl, by kernel_rfl⟩
abbrev internal_bytealg_Cutover_ps : List Pk := [Pk.int .i64]
abbrev internal_bytealg_Cutover_rs : List Pk := [Pk.int .i64]
def internal_bytealg_Cutover_q (n0 : Int) (K : Int → Prop) : Prop :=
 (8 : Int) ≠ 0 ∧
 K (IntKind.wrap .i64 (Int.tdiv (IntKind.wrap .i64 (n0 + 16)) 8))
noncomputable def tab_internal_bytealg_Cutover : List (Nat × Ct) := []
theorem internal_bytealg_Cutover_eq : (fun (x : PkTs internal_bytealg_Cutover_ps) (K : PkTs internal_bytealg_Cutover_rs → Prop) => internal_bytealg_Cutover_q x.1 (fun r0 => K (r0, ()))) = fun x K => PCode Tryd.prog tab_internal_bytealg_Cutover plan_internal_bytealg_Cutover (bodyOf Tryd.f90) (parS internal_bytealg_Cutover_ps x) (PRet Tryd.prog Tryd.f90.results.toList fun a st => outP internal_bytealg_Cutover_rs st a K) := by kernel_rfl
theorem internal_bytealg_Cutover_fq : FnQ Tryd.prog f_internal_bytealg_Cutover internal_bytealg_Cutover_ps internal_bytealg_Cutover_rs (fun x K => internal_bytealg_Cutover_q x.1 (fun r0 => K (r0, ()))) := (fnQ_of k_internal_bytealg_Cutover (tab := tab_internal_bytealg_Cutover) trivial rfl).of_eq internal_bytealg_Cutover_eq
noncomputable def ct_internal_bytealg_Cutover : Ct := ctRd internal_bytealg_Cutover_ps internal_bytealg_Cutover_rs (fun x K => internal_bytealg_Cutover_q x.1 (fun r0 => K (r0, ())))
theorem ct_internal_bytealg_Cutover_ok : SoundCt Tryd.prog f_internal_bytealg_Cutover ct_internal_bytealg_Cutover := ctRd_sound internal_bytealg_Cutover_fq
def pl_internal_bytealg_hashStrastring_3 : PLoop := ⟨[(4, PK.int .u32), (5, PK.int .i64)], [0], none⟩
def pl_internal_bytealg_hashStrastring_8 : PLoop := ⟨[(6, PK.int .u32), (7, PK.int .u32), (8, PK.int .i64)], [4], none⟩
def plan_internal_bytealg_hashStrastring : PPlan := ⟨[], [(3, pl_internal_bytealg_hashStrastring_3), (8, pl_internal_bytealg_hashStrastring_8)], [], [], [], []⟩
theorem k_internal_bytealg_hashStrastring : Known Tryd.prog f_internal_bytealg_hashStrastring Tryd.f101 plan_internal_bytealg_hashStrastring.plan (bodyOf Tryd.f101) := ⟨Tryd.func101, by kernel_rfl, by kernel_rfl, by kernel_rfl, by kernel_rfl, by kernel_rfl⟩
abbrev internal_bytealg_hashStrastring_ps : List Pk := [Pk.str]
abbrev internal_bytealg_hashStrastring_rs : List Pk := [Pk.int .u32, Pk.int .u32]
def internal_bytealg_hashStrastring_j0 (hash4 : Int) (sq7 : Int) (i8 : Int) (next8 : (Int × Int × Int × Unit) → Prop) (j1 : Int) (K : Int → Int → Prop) : Prop :=
 (0 : Int) ≤ 1 ∧
 next8 (j1, (IntKind.wrap .u32 (sq7 * sq7)), (Int.fdiv i8 2), ())
def internal_bytealg_hashStrastring_l8 (hash4 : Int) (pow6 : Int) (sq7 : Int) (i8 : Int) (next8 : (Int × Int × Int × Unit) → Prop) (K : Int → Int → Prop) : Prop :=
 IfB (decide ((i8 : Int) > 0))
 (IfB (((bitsAnd .i64 i8 1) : Int) != 0)
 (internal_bytealg_hashStrastring_j0 hash4 sq7 i8 next8 (IntKind.wrap .u32 (pow6 * sq7)) K)
 (internal_bytealg_hashStrastring_j0 hash4 sq7 i8 next8 pow6 K))
 (K hash4 pow6)
def internal_bytealg_hashStrastring_l3 (sep0 : List UInt8) (hash4 : Int) (i5 : Int) (next3 : (Int × Int × Unit) → Prop) (K : Int → Int → Prop) : Prop :=
 IfB (decide ((i5 : Int) < (sep0.length : Int)))
 ((0 : Int) ≤ i5 ∧ AtN sep0 i5.toNat fun x19 =>
 next3 ((IntKind.wrap .u32 ((IntKind.wrap .u32 (hash4 * 16777619)) + (IntKind.wrap .u32 (x19.toNat : Int)))), (IntKind.wrap .i64 (i5 + 1)), ()))
 (LoopJ (Int × Int × Int × Unit) ((1 : Int), (16777619 : Int), (sep0.length : Int), ()) fun y next =>
 WfY pl_internal_bytealg_hashStrastring_8.kinds y →
 internal_bytealg_hashStrastring_l8 hash4 y.1 y.2.1 y.2.2.1 next K)
def internal_bytealg_hashStrastring_q (sep0 : List UInt8) (K : Int → Int → Prop) : Prop :=
 LoopJ (Int × Int × Unit) ((0 : Int), (0 : Int), ()) fun y next =>
 WfY pl_internal_bytealg_hashStrastring_3.kinds y →
 internal_bytealg_hashStrastring_l3 sep0 y.1 y.2.1 next K
noncomputable def tab_internal_bytealg_hashStrastring : List (Nat × Ct) := []
theorem internal_bytealg_hashStrastring_eq : (fun (x : PkTs internal_bytealg_hashStrastring_ps) (K : PkTs internal_bytealg_hashStrastring_rs → Prop) => internal_bytealg_hashStrastring_q x.1 (fun r0 r1 => K (r0, r1, ()))) = fun x K => PCode Tryd.prog tab_internal_bytealg_hashStrastring plan_internal_bytealg_hashStrastring (bodyOf Tryd.f101) (parS internal_bytealg_hashStrastring_ps x) (PRet Tryd.prog Tryd.f101.results.toList fun a st => outP internal_bytealg_hashStrastring_rs st a K) := by kernel_rfl
theorem internal_bytealg_hashStrastring_fq : FnQ Tryd.prog f_internal_bytealg_hashStrastring internal_bytealg_hashStrastring_ps internal_bytealg_hashStrastring_rs (fun x K => internal_bytealg_hashStrastring_q x.1 (fun r0 r1 => K (r0, r1, ()))) := (fnQ_of k_internal_bytealg_hashStrastring (tab := tab_internal_bytealg_hashStrastring) trivial rfl).of_eq internal_bytealg_hashStrastring_eq
noncomputable def ct_internal_bytealg_hashStrastring : Ct := ctRd internal_bytealg_hashStrastring_ps internal_bytealg_hashStrastring_rs (fun x K => internal_bytealg_hashStrastring_q x.1 (fun r0 r1 => K (r0, r1, ())))
theorem ct_internal_bytealg_hashStrastring_ok : SoundCt Tryd.prog f_internal_bytealg_hashStrastring ct_internal_bytealg_hashStrastring := ctRd_sound internal_bytealg_hashStrastring_fq
def pl_internal_bytealg_IndexRabinKarpastring_5 : PLoop := ⟨[(8, PK.int .u32), (9, PK.int .i64)], [0, 1, 5, 6, 7], none⟩
def pl_internal_bytealg_IndexRabinKarpastring_11 : PLoop := ⟨[(8, PK.int .u32), (10, PK.int .i64)], [0, 1, 5, 6, 7], none⟩
def plan_internal_bytealg_IndexRabinKarpastring : PPlan := ⟨[], [(5, pl_internal_bytealg_IndexRabinKarpastring_5), (11, pl_internal_bytealg_IndexRabinKarpastring_11)], [], [], [], []⟩
theorem k_internal_bytealg_IndexRabinKarpastring : Known Tryd.prog f_internal_bytealg_IndexRabinKarpastring Tryd.f91 plan_internal_bytealg_IndexRabinKarpastring.plan (bodyOf Tryd.f91) := ⟨Tryd.func91, by kernel_rfl, by kernel_rfl, by kernel_rfl, by kernel_rfl, by kernel_rfl⟩
abbrev internal_bytealg_IndexRabinKarpastring_ps : List Pk := [Pk.str, Pk.str]
abbrev internal_bytealg_IndexRabinKarpastring_rs : List Pk := [Pk.int .i64]
def internal_bytealg_IndexRabinKarpastring_j1 (s0 : List UInt8) (sep1 : List UInt8) (x13r0 : Int) (x13r1 : Int) (h8_1 : Int) (x50 : UInt8) (x59 : UInt8) (i10 : Int) (next11 : (Int × Int × Unit) → Prop) (j7 : Bool) (K : Int → Prop) : Prop :=
 IfB j7
 (K (IntKind.wrap .i64 ((IntKind.wrap .i64 (i10 + 1)) - (sep1.length : Int))))
 (next11 ((IntKind.wrap .u32 ((IntKind.wrap .u32 ((IntKind.wrap .u32 (h8_1 * 16777619)) + (IntKind.wrap .u32 (x50.toNat : Int)))) - (IntKind.wrap .u32 (x13r1 * (IntKind.wrap .u32 (x59.toNat : Int)))))), (IntKind.wrap .i64 (i10 + 1)), ()))
def internal_bytealg_IndexRabinKarpastring_l11 (s0 : List UInt8) (sep1 : List UInt8) (x13r0 : Int) (x13r1 : Int) (h8_1 : Int) (i10 : Int) (next11 : (Int × Int × Unit) → Prop) (K : Int → Prop) : Prop :=
 IfB (decide ((i10 : Int) < (s0.length : Int)))
 ((0 : Int) ≤ i10 ∧ AtN s0 i10.toNat fun x50 =>
 (0 : Int) ≤ (IntKind.wrap .i64 (i10 - (sep1.length : Int))) ∧ AtN s0 (IntKind.wrap .i64 (i10 - (sep1.length : Int))).toNat fun x59 =>
 IfB (((IntKind.wrap .u32 ((IntKind.wrap .u32 ((IntKind.wrap .u32 (h8_1 * 16777619)) + (IntKind.wrap .u32 (x50.toNat : Int)))) - (IntKind.wrap .u32 (x13r1 * (IntKind.wrap .u32 (x59.toNat : Int)))))) : Int) == x13r0)
 ((0 : Int) ≤ (IntKind.wrap .i64 (i10 + 1)) ∧ (IntKind.wrap .i64 (i10 + 1)) ≤ (s0.length : Int) ∧
 (0 : Int) ≤ (IntKind.wrap .i64 ((IntKind.wrap .i64 (i10 + 1)) - (sep1.length : Int))) ∧ (IntKind.wrap .i64 ((IntKind.wrap .i64 (i10 + 1)) - (sep1.length : Int))) ≤ ((IntKind.wrap .i64 (i10 + 1)).toNat : Int) ∧
 internal_bytealg_IndexRabinKarpastring_j1 s0 sep1 x13r0 x13r1 h8_1 x50 x59 i10 next11 (((s0.take ((IntKind.wrap .i64 (i10 + 1)).toNat)).drop ((IntKind.wrap .i64 ((IntKind.wrap .i64 (i10 + 1)) - (sep1.length : Int))).toNat)) == sep1) K)
 (internal_bytealg_IndexRabinKarpastring_j1 s0 sep1 x13r0 x13r1 h8_1 x50 x59 i10 next11 false K))
 (K (-1))
def internal_bytealg_IndexRabinKarpastring_j0 (s0 : List UInt8) (sep1 : List UInt8) (x13r0 : Int) (x13r1 : Int) (h8 : Int) (j6 : Bool) (K : Int → Prop) : Prop :=
 IfB j6
 (K 0)
 (LoopJ (Int × Int × Unit) (h8, (sep1.length : Int), ()) fun y next =>
 WfY pl_internal_bytealg_IndexRabinKarpastring_11.kinds y →
 internal_bytealg_IndexRabinKarpastring_l11 s0 sep1 x13r0 x13r1 y.1 y.2.1 next K)
def internal_bytealg_IndexRabinKarpastring_l5 (s0 : List UInt8) (sep1 : List UInt8) (x13r0 : Int) (x13r1 : Int) (h8 : Int) (i9 : Int) (next5 : (Int × Int × Unit) → Prop) (K : Int → Prop) : Prop :=
 IfB (decide ((i9 : Int) < (sep1.length : Int)))
 ((0 : Int) ≤ i9 ∧ AtN s0 i9.toNat fun x27 =>
 next5 ((IntKind.wrap .u32 ((IntKind.wrap .u32 (h8 * 16777619)) + (IntKind.wrap .u32 (x27.toNat : Int)))), (IntKind.wrap .i64 (i9 + 1)), ()))
 (IfB ((h8 : Int) == x13r0)
 ((0 : Int) ≤ (sep1.length : Int) ∧ (sep1.length : Int) ≤ (s0.length : Int) ∧
 internal_bytealg_IndexRabinKarpastring_j0 s0 sep1 x13r0 x13r1 h8 ((s0.take (sep1.length)) == sep1) K)
 (internal_bytealg_IndexRabinKarpastring_j0 s0 sep1 x13r0 x13r1 h8 false K))
def internal_bytealg_IndexRabinKarpastring_q (s0 : List UInt8) (sep1 : List UInt8) (K : Int → Prop) : Prop :=
 (WfPs internal_bytealg_hashStrastring_ps (sep1, ()) →
 internal_bytealg_hashStrastring_q sep1 (fun x13r0 x13r1 =>
 WfPs internal_bytealg_hashStrastring_rs (x13r0, x13r1, ()) →
 LoopJ (Int × Int × Unit) ((0 : Int), (0 : Int), ()) fun y next =>
 WfY pl_internal_bytealg_IndexRabinKarpastring_5.kinds y →
 internal_bytealg_IndexRabinKarpastring_l5 s0 sep1 x13r0 x13r1 y.1 y.2.1 next K))
noncomputable def tab_internal_bytealg_IndexRabinKarpastring : List (Nat × Ct) := [(f_internal_bytealg_hashStrastring, ct_internal_bytealg_hashStrastring)]
theorem internal_bytealg_IndexRabinKarpastring_eq : (fun (x : PkTs internal_bytealg_IndexRabinKarpastring_ps) (K : PkTs internal_bytealg_IndexRabinKarpastring_rs → Prop) => internal_bytealg_IndexRabinKarpastring_q x.1 x.2.1 (fun r0 => K (r0, ()))) = fun x K => PCode Tryd.prog tab_internal_bytealg_IndexRabinKarpastring plan_internal_bytealg_IndexRabinKarpastring (bodyOf Tryd.f91) (parS internal_bytealg_IndexRabinKarpastring_ps x) (PRet Tryd.prog Tryd.f91.results.toList fun a st => outP internal_bytealg_IndexRabinKarpastring_rs st a K) := by kernel_rfl
theorem internal_bytealg_IndexRabinKarpastring_fq : FnQ Tryd.prog f_internal_bytealg_IndexRabinKarpastring internal_bytealg_IndexRabinKarpastring_ps internal_bytealg_IndexRabinKarpastring_rs (fun x K => internal_bytealg_IndexRabinKarpastring_q x.1 x.2.1 (fun r0 => K (r0, ()))) := (fnQ_of k_internal_bytealg_IndexRabinKarpastring (tab := tab_internal_bytealg_IndexRabinKarpastring) ⟨ct_internal_bytealg_hashStrastring_ok, trivial⟩ rfl).of_eq internal_bytealg_IndexRabinKarpastring_eq
noncomputable def ct_internal_bytealg_IndexRabinKarpastring : Ct := ctRd internal_bytealg_IndexRabinKarpastring_ps internal_bytealg_IndexRabinKarpastring_rs (fun x K => internal_bytealg_IndexRabinKarpastring_q x.1 x.2.1 (fun r0 => K (r0, ())))
theorem ct_internal_bytealg_IndexRabinKarpastring_ok : SoundCt Tryd.prog f_internal_bytealg_IndexRabinKarpastring ct_internal_bytealg_IndexRabinKarpastring := ctRd_sound internal_bytealg_IndexRabinKarpastring_fq
def plan_internal_strconv_lower : PPlan := ⟨[], [], [], [], [], []⟩
theorem k_internal_strconv_lower : Known Tryd.prog f_internal_strconv_lower Tryd.f102 plan_internal_strconv_lower.plan (bodyOf Tryd.f102) := ⟨Tryd.func102, by kernel_rfl, by kernel_rfl, by kernel_rfl, by kernel_rfl, by kernel_rfl⟩
abbrev internal_strconv_lower_ps : List Pk := [Pk.int .u8]
abbrev internal_strconv_lower_rs : List Pk := [Pk.int .u8]
def internal_strconv_lower_q (c0 : Int) (K : Int → Prop) : Prop :=
 K (bitsOr .u8 c0 32)
noncomputable def tab_internal_strconv_lower : List (Nat × Ct) := []
theorem internal_strconv_lower_eq : (fun (x : PkTs internal_strconv_lower_ps) (K : PkTs internal_strconv_lower_rs → Prop) => internal_strconv_lower_q x.1 (fun r0 => K (r0, ()))) = fun x K => PCode Tryd.prog tab_internal_strconv_lower plan_internal_strconv_lower (bodyOf Tryd.f102) (parS internal_strconv_lower_ps x) (PRet Tryd.prog Tryd.f102.results.toList fun a st => outP internal_strconv_lower_rs st a K) := by kernel_rfl
theorem internal_strconv_lower_fq : FnQ Tryd.prog f_internal_strconv_lower internal_strconv_lower_ps internal_strconv_lower_rs (fun x K => internal_strconv_lower_q x.1 (fun r0 => K (r0, ()))) := (fnQ_of k_internal_strconv_lower (tab := tab_internal_strconv_lower) trivial rfl).of_eq internal_strconv_lower_eq
noncomputable def ct_internal_strconv_lower : Ct := ctRd internal_strconv_lower_ps internal_strconv_lower_rs (fun x K => internal_strconv_lower_q x.1 (fun r0 => K (r0, ())))
theorem ct_internal_strconv_lower_ok : SoundCt Tryd.prog f_internal_strconv_lower ct_internal_strconv_lower := ctRd_sound internal_strconv_lower_fq
def pl_internal_strconv_underscoreOK_10 : PLoop := ⟨[(3, PK.int .i32), (4, PK.int .i64)], [0, 5], none⟩
def plan_internal_strconv_underscoreOK : PPlan := ⟨[], [(10, pl_internal_strconv_underscoreOK_10)], [], [], [], []⟩
theorem k_internal_strconv_underscoreOK : Known Tryd.prog f_internal_strconv_underscoreOK Tryd.f103 plan_internal_strconv_underscoreOK.plan (bodyOf Tryd.f103) := ⟨Tryd.func103, by kernel_rfl, by kernel_rfl, by kernel_rfl, by kernel_rfl, by kernel_rfl⟩
abbrev internal_strconv_underscoreOK_ps : List Pk := [Pk.str]
abbrev internal_strconv_underscoreOK_rs : List Pk := [Pk.bool]
def internal_strconv_underscoreOK_j6 (j0 : List UInt8) (i4 : Int) (j3_1 : Bool) (next10 : (Int × Int × Unit) → Prop) (j1_1 : Int) (K : Bool → Prop) : Prop :=
 next10 (j1_1, (IntKind.wrap .i64 (i4 + 1)), ())
def internal_strconv_underscoreOK_j5 (j0 : List UInt8) (saw3 : Int) (i4 : Int) (j3_1 : Bool) (next10 : (Int × Int × Unit) → Prop) (j4_1 : Bool) (K : Bool → Prop) : Prop :=
 IfB j4_1
 (internal_strconv_underscoreOK_j6 j0 i4 j3_1 next10 48 K)
 ((0 : Int) ≤ i4 ∧ AtN j0 i4.toNat fun x86 =>
 IfB (((x86.toNat : Int) : Int) == 95)
 (IfB ((saw3 : Int) != 48)
 (K false)
 (internal_strconv_underscoreOK_j6 j0 i4 j3_1 next10 95 K))
 (IfB ((saw3 : Int) == 95)
 (K false)
 (internal_strconv_underscoreOK_j6 j0 i4 j3_1 next10 33 K)))
def internal_strconv_underscoreOK_l10 (j0 : List UInt8) (j3_1 : Bool) (saw3 : Int) (i4 : Int) (next10 : (Int × Int × Unit) → Prop) (K : Bool → Prop) : Prop :=
 IfB (decide ((i4 : Int) < (j0.length : Int)))
 ((0 : Int) ≤ i4 ∧ AtN j0 i4.toNat fun x59 =>
 IfB (decide ((48 : Int) ≤ (x59.toNat : Int)))
 ((0 : Int) ≤ i4 ∧ AtN j0 i4.toNat fun x64 =>
 IfB (decide (((x64.toNat : Int) : Int) ≤ 57))
 (internal_strconv_underscoreOK_j5 j0 saw3 i4 j3_1 next10 true K)
 (IfB j3_1
 ((0 : Int) ≤ i4 ∧ AtN j0 i4.toNat fun x72 =>
 (WfPs internal_strconv_lower_ps ((x72.toNat : Int), ()) →
 internal_strconv_lower_q (x72.toNat : Int) (fun x73 =>
 WfPs internal_strconv_lower_rs (x73, ()) →
 IfB (decide ((97 : Int) ≤ x73))
 ((0 : Int) ≤ i4 ∧ AtN j0 i4.toNat fun x79 =>
 (WfPs internal_strconv_lower_ps ((x79.toNat : Int), ()) →
 internal_strconv_lower_q (x79.toNat : Int) (fun x80 =>
 WfPs internal_strconv_lower_rs (x80, ()) →
 internal_strconv_underscoreOK_j5 j0 saw3 i4 j3_1 next10 (decide ((x80 : Int) ≤ 102)) K)))
 (internal_strconv_underscoreOK_j5 j0 saw3 i4 j3_1 next10 false K))))
 (internal_strconv_underscoreOK_j5 j0 saw3 i4 j3_1 next10 false K)))
 (IfB j3_1
 ((0 : Int) ≤ i4 ∧ AtN j0 i4.toNat fun x72_1 =>
 (WfPs internal_strconv_lower_ps ((x72_1.toNat : Int), ()) →
 internal_strconv_lower_q (x72_1.toNat : Int) (fun x73_1 =>
 WfPs internal_strconv_lower_rs (x73_1, ()) →
 IfB (decide ((97 : Int) ≤ x73_1))
 ((0 : Int) ≤ i4 ∧ AtN j0 i4.toNat fun x79_1 =>
 (WfPs internal_strconv_lower_ps ((x79_1.toNat : Int), ()) →
 internal_strconv_lower_q (x79_1.toNat : Int) (fun x80_1 =>
 WfPs internal_strconv_lower_rs (x80_1, ()) →
 internal_strconv_underscoreOK_j5 j0 saw3 i4 j3_1 next10 (decide ((x80_1 : Int) ≤ 102)) K)))
 (internal_strconv_underscoreOK_j5 j0 saw3 i4 j3_1 next10 false K))))
 (internal_strconv_underscoreOK_j5 j0 saw3 i4 j3_1 next10 false K)))
 (K ((saw3 : Int) != 95))
def internal_strconv_underscoreOK_j4 (j0 : List UInt8) (j1 : Int) (j2 : Int) (j3_1 : Bool) (K : Bool → Prop) : Prop :=
 LoopJ (Int × Int × Unit) (j1, j2, ()) fun y next =>
 WfY pl_internal_strconv_underscoreOK_10.kinds y →
 internal_strconv_underscoreOK_l10 j0 j3_1 y.1 y.2.1 next K
def internal_strconv_underscoreOK_j3 (j0 : List UInt8) (K : Bool → Prop) : Prop :=
 (0 : Int) ≤ 1 ∧ AtN j0 1 fun x48 =>
 (WfPs internal_strconv_lower_ps ((x48.toNat : Int), ()) →
 internal_strconv_lower_q (x48.toNat : Int) (fun x49 =>
 WfPs internal_strconv_lower_rs (x49, ()) →
 internal_strconv_underscoreOK_j4 j0 48 2 ((x49 : Int) == 120) K))
def internal_strconv_underscoreOK_j2 (j0 : List UInt8) (j4 : Bool) (K : Bool → Prop) : Prop :=
 IfB j4
 (internal_strconv_underscoreOK_j3 j0 K)
 (internal_strconv_underscoreOK_j4 j0 94 0 false K)
def internal_strconv_underscoreOK_j1 (j0 : List UInt8) (K : Bool → Prop) : Prop :=
 IfB (decide (((j0.length : Int) : Int) ≥ 2))
 ((0 : Int) ≤ 0 ∧ AtN j0 0 fun x26 =>
 IfB (((x26.toNat : Int) : Int) == 48)
 ((0 : Int) ≤ 1 ∧ AtN j0 1 fun x31 =>
 (WfPs internal_strconv_lower_ps ((x31.toNat : Int), ()) →
 internal_strconv_lower_q (x31.toNat : Int) (fun x32 =>
 WfPs internal_strconv_lower_rs (x32, ()) →
 IfB ((x32 : Int) == 98)
 (internal_strconv_underscoreOK_j2 j0 true K)
 ((0 : Int) ≤ 1 ∧ AtN j0 1 fun x36 =>
 (WfPs internal_strconv_lower_ps ((x36.toNat : Int), ()) →
 internal_strconv_lower_q (x36.toNat : Int) (fun x37 =>
 WfPs internal_strconv_lower_rs (x37, ()) →
 IfB ((x37 : Int) == 111)
 (internal_strconv_underscoreOK_j2 j0 true K)
 ((0 : Int) ≤ 1 ∧ AtN j0 1 fun x42 =>
 (WfPs internal_strconv_lower_ps ((x42.toNat : Int), ()) →
 internal_strconv_lower_q (x42.toNat : Int) (fun x43 =>
 WfPs internal_strconv_lower_rs (x43, ()) →
 internal_strconv_underscoreOK_j2 j0 ((x43 : Int) == 120) K)))))))))
 (internal_strconv_underscoreOK_j2 j0 false K))
 (internal_strconv_underscoreOK_j2 j0 false K)
def internal_strconv_underscoreOK_j0 (s0 : List UInt8) (j3 : Bool) (K : Bool → Prop) : Prop :=
 IfB j3
 ((0 : Int) ≤ 1 ∧ 1 ≤ (s0.length : Int) ∧
 internal_strconv_underscoreOK_j1 (s0.drop 1) K)
 (internal_strconv_underscoreOK_j1 s0 K)
def internal_strconv_underscoreOK_q (s0 : List UInt8) (K : Bool → Prop) : Prop :=
 IfB (decide (((s0.length : Int) : Int) ≥ 1))
 ((0 : Int) ≤ 0 ∧ AtN s0 0 fun x11 =>
 IfB (((x11.toNat : Int) : Int) == 45)
 (internal_strconv_underscoreOK_j0 s0 true K)
 ((0 : Int) ≤ 0 ∧ AtN s0 0 fun x15 =>
 internal_strconv_underscoreOK_j0 s0 (((x15.toNat : Int) : Int) == 43) K))
 (internal_strconv_underscoreOK_j0 s0 false K)
noncomputable def tab_internal_strconv_underscoreOK : List (Nat × Ct) := [(f_internal_strconv_lower, ct_internal_strconv_lower)]
theorem internal_strconv_underscoreOK_eq : (fun (x : PkTs internal_strconv_underscoreOK_ps) (K : PkTs internal_strconv_underscoreOK_rs → Prop) => internal_strconv_underscoreOK_q x.1 (fun r0 => K (r0, ()))) = fun x K => PCode Tryd.prog tab_internal_strconv_underscoreOK plan_internal_strconv_underscoreOK (bodyOf Tryd.f103) (parS internal_strconv_underscoreOK_ps x) (PRet Tryd.prog Tryd.f103.results.toList fun a st => outP internal_strconv_underscoreOK_rs st a K) := by kernel_rfl
theorem internal_strconv_underscoreOK_fq : FnQ Tryd.prog f_internal_strconv_underscoreOK internal_strconv_underscoreOK_ps internal_strconv_underscoreOK_rs (fun x K => internal_strconv_underscoreOK_q x.1 (fun r0 => K (r0, ()))) := (fnQ_of k_internal_strconv_underscoreOK (tab := tab_internal_strconv_underscoreOK) ⟨ct_internal_strconv_lower_ok, trivial⟩ rfl).of_eq internal_strconv_underscoreOK_eq
noncomputable def ct_internal_strconv_underscoreOK : Ct := ctRd internal_strconv_underscoreOK_ps internal_strconv_underscoreOK_rs (fun x K => internal_strconv_underscoreOK_q x.1 (fun r0 => K (r0, ())))
theorem ct_internal_strconv_underscoreOK_ok : SoundCt Tryd.prog f_internal_strconv_underscoreOK ct_internal_strconv_underscoreOK := ctRd_sound internal_strconv_underscoreOK_fq
def plan_errors_New : PPlan := ⟨[], [], [], [], [], []⟩
theorem k_errors_New : Known Tryd.prog f_errors_New Tryd.f94 plan_errors_New.plan (bodyOf Tryd.f94) := ⟨Tryd.func94, by kernel_rfl, by kernel_rfl, by kernel_rfl, by kernel_rfl, by kernel_rfl⟩
abbrev errors_New_ps : List Pk := [Pk.str]
abbrev errors_New_rs : List Pk := [Pk.err]
def errors_New_q (text0 : List UInt8) (K : Bool → Prop) : Prop :=
 K false
noncomputable def tab_errors_New : List (Nat × Ct) := []
theorem errors_New_eq : (fun (x : PkTs errors_New_ps) (K : PkTs errors_New_rs → Prop) => errors_New_q x.1 (fun r0 => K (r0, ()))) = fun x K => PCode Tryd.prog tab_errors_New plan_errors_New (bodyOf Tryd.f94) (parS errors_New_ps x) (PRet Tryd.prog Tryd.f94.results.toList fun a st => outP errors_New_rs st a K) := by kernel_rfl
theorem errors_New_fq : FnQ Tryd.prog f_errors_New errors_New_ps errors_New_rs (fun x K => errors_New_q x.1 (fun r0 => K (r0, ()))) := (fnQ_of k_errors_New (tab := tab_errors_New) trivial rfl).of_eq errors_New_eq
noncomputable def ct_errors_New : Ct := ctRd errors_New_ps errors_New_rs (fun x K => errors_New_q x.1 (fun r0 => K (r0, ())))
theorem ct_errors_New_ok : SoundCt Tryd.prog f_errors_New ct_errors_New := ctRd_sound errors_New_fq
def plan_ip_octet : PPlan := ⟨[], [], [], [], [], []⟩
theorem k_ip_octet : Known Tryd.prog f_ip_octet Tryd.f45 plan_ip_octet.plan (bodyOf Tryd.f45) := ⟨Tryd.func45, by kernel_rfl, by kernel_rfl, by kernel_rfl, by kernel_rfl, by kernel_rfl⟩
abbrev ip_octet_ps : List Pk := [Pk.str]
abbrev ip_octet_rs : List Pk := [Pk.int .i64]
def ip_octet_j0 (x7r0 : Int) (j1 : Bool) (K : Int → Prop) : Prop :=
 IfB j1
 (K (-1))
 (K x7r0)
def ip_octet_q (s0 : List UInt8) (K : Int → Prop) : Prop :=
 (WfPs strconv_Atoi_ps (s0, ()) →
 strconv_Atoi_q s0 (fun x7r0 x7r1 =>
 WfPs strconv_Atoi_rs (x7r0, x7r1, ()) →
 IfB (!x7r1)
 (ip_octet_j0 x7r0 true K)
 (IfB (decide ((x7r0 : Int) > 255))
 (ip_octet_j0 x7r0 true K)
 ((WfPs strconv_Itoa_ps (x7r0, ()) →
 strconv_Itoa_q x7r0 (fun x18 =>
 WfPs strconv_Itoa_rs (x18, ()) →
 ip_octet_j0 x7r0 (!(x18 == s0)) K))))))
noncomputable def tab_ip_octet : List (Nat × Ct) := [(f_strconv_Itoa, ct_strconv_Itoa), (f_strconv_Atoi, ct_strconv_Atoi)]
theorem ip_octet_eq : (fun (x : PkTs ip_octet_ps) (K : PkTs ip_octet_rs → Prop) => ip_octet_q x.1 (fun r0 => K (r0, ()))) = fun x K => PCode Tryd.prog tab_ip_octet plan_ip_octet (bodyOf Tryd.f45) (parS ip_octet_ps x) (PRet Tryd.prog Tryd.f45.results.toList fun a st => outP ip_octet_rs st a K) := by kernel_rfl
theorem ip_octet_fq : FnQ Tryd.prog f_ip_octet ip_octet_ps ip_octet_rs (fun x K => ip_octet_q x.1 (fun r0 => K (r0, ()))) := (fnQ_of k_ip_octet (tab := tab_ip_octet) ⟨ct_strconv_Itoa_ok, ct_strconv_Atoi_ok, trivial⟩ rfl).of_eq ip_octet_eq
noncomputable def ct_ip_octet : Ct := ctRd ip_octet_ps ip_octet_rs (fun x K => ip_octet_q x.1 (fun r0 => K (r0, ())))
theorem ct_ip_octet_ok : SoundCt Tryd.prog f_ip_octet ct_ip_octet := ctRd_sound ip_octet_fq
def pl_ip_Parse_6 : PLoop := ⟨[(5, PK.int .u32), (16, PK.int .i64)], [14, 15], none⟩
def plan_ip_Parse : PPlan := ⟨[], [(6, pl_ip_Parse_6)], [], [], [], []⟩
theorem k_ip_Parse : Known Tryd.prog f_ip_Parse Tryd.f23 plan_ip_Parse.plan (bodyOf Tryd.f23) := ⟨Tryd.func23, by kernel_rfl, by kernel_rfl, by kernel_rfl, by kernel_rfl, by kernel_rfl⟩
abbrev ip_Parse_ps : List Pk := [Pk.str]
abbrev ip_Parse_rs : List Pk := [Pk.int .u32, Pk.int .i64]
def ip_Parse_l6 (x10 : List (List UInt8)) (a5 : Int) (x16 : Int) (next6 : (Int × Int × Unit) → Prop) (K : Int → Int → Prop) : Prop :=
 IfB (decide ((x16 : Int) < (x10.length : Int)))
 ((0 : Int) ≤ x16 ∧ x16 < (x10.length : Int) ∧
 AtN x10 x16.toNat fun x19 =>
 WfT ks_str x19 →
 (WfPs ip_octet_ps (x19, ()) →
 ip_octet_q x19 (fun x21 =>
 WfPs ip_octet_rs (x21, ()) →
 IfB (decide ((x21 : Int) < 0))
 (K 0 2)
 ((0 : Int) ≤ 8 ∧
 next6 ((bitsOr .u32 (IntKind.wrap .u32 (a5 * 256)) (IntKind.wrap .u32 x21)), (IntKind.wrap .i64 (x16 + 1)), ())))))
 (K a5 0)
def ip_Parse_q (s0 : List UInt8) (K : Int → Int → Prop) : Prop :=
 (WfPs strings_Split_ps (s0, ([46] : List UInt8), ()) →
 strings_Split_q s0 ([46] : List UInt8) (fun x10 =>
 WfPs strings_Split_rs (x10, ()) →
 IfB (((x10.length : Int) : Int) != 4)
 (K 0 2)
 (LoopJ (Int × Int × Unit) ((0 : Int), (0 : Int), ()) fun y next =>
 WfY pl_ip_Parse_6.kinds y →
 ip_Parse_l6 x10 y.1 y.2.1 next K)))
noncomputable def tab_ip_Parse : List (Nat × Ct) := [(f_strings_Split, ct_strings_Split), (f_ip_octet, ct_ip_octet)]
theorem ip_Parse_eq : (fun (x : PkTs ip_Parse_ps) (K : PkTs ip_Parse_rs → Prop) => ip_Parse_q x.1 (fun r0 r1 => K (r0, r1, ()))) = fun x K => PCode Tryd.prog tab_ip_Parse plan_ip_Parse (bodyOf Tryd.f23) (parS ip_Parse_ps x) (PRet Tryd.prog Tryd.f23.results.toList fun a st => outP ip_Parse_rs st a K) := by kernel_rfl
theorem ip_Parse_fq : FnQ Tryd.prog f_ip_Parse ip_Parse_ps ip_Parse_rs (fun x K => ip_Parse_q x.1 (fun r0 r1 => K (r0, r1, ()))) := (fnQ_of k_ip_Parse (tab := tab_ip_Parse) ⟨ct_strings_Split_ok, ct_ip_octet_ok, trivial⟩ rfl).of_eq ip_Parse_eq
noncomputable def ct_ip_Parse : Ct := ctRd ip_Parse_ps ip_Parse_rs (fun x K => ip_Parse_q x.1 (fun r0 r1 => K (r0, r1, ())))
theorem ct_ip_Parse_ok : SoundCt Tryd.prog f_ip_Parse ct_ip_Parse := ctRd_sound ip_Parse_fq
def pl_base_Split_4 : PLoop := ⟨[(5, PK.row T_string [Kd.str]), (6, PK.int .i64), (7, PK.int .i64)], [0, 1], none⟩
def plan_base_Split : PPlan := ⟨[], [(4, pl_base_Split_4)], [], [], [], []⟩
theorem k_base_Split : Known Tryd.prog f_base_Split Tryd.f46 plan_base_Split.plan (bodyOf Tryd.f46) := ⟨Tryd.func46, by kernel_rfl, by kernel_rfl, by kernel_rfl, by kernel_rfl, by kernel_rfl⟩
abbrev base_Split_ps : List Pk := [Pk.str, Pk.int .u8]
abbrev base_Split_rs : List Pk := [Pk.own T_string [Kd.str]]
def base_Split_j0 (s0 : List UInt8) (c1 : Int) (i7 : Int) (next4 : (List (List UInt8) × Int × Int × Unit) → Prop) (j2 : List (List UInt8)) (j3 : Int) (K : List (List UInt8) → Prop) : Prop :=
 next4 (j2, j3, (IntKind.wrap .i64 (i7 + 1)), ())
def base_Split_l4 (s0 : List UInt8) (c1 : Int) (out5 : List (List UInt8)) (from6 : Int) (i7 : Int) (next4 : (List (List UInt8) × Int × Int × Unit) → Prop) (K : List (List UInt8) → Prop) : Prop :=
 IfB (decide ((i7 : Int) < (s0.length : Int)))
 ((0 : Int) ≤ i7 ∧ AtN s0 i7.toNat fun x17 =>
 IfB (((x17.toNat : Int) : Int) == c1)
 ((0 : Int) ≤ i7 ∧ i7 ≤ (s0.length : Int) ∧
 (0 : Int) ≤ from6 ∧ from6 ≤ (i7.toNat : Int) ∧
 out5.length + ([((s0.take i7.toNat).drop from6.toNat)] : List (List UInt8)).length ≤ 8796093022112 ∧
 base_Split_j0 s0 c1 i7 next4 (out5 ++ ([((s0.take i7.toNat).drop from6.toNat)] : List (List UInt8))) (IntKind.wrap .i64 (i7 + 1)) K)
 (base_Split_j0 s0 c1 i7 next4 out5 from6 K))
 ((0 : Int) ≤ from6 ∧ from6 ≤ (s0.length : Int) ∧
 out5.length + ([(s0.drop from6.toNat)] : List (List UInt8)).length ≤ 8796093022112 ∧
 K (out5 ++ ([(s0.drop from6.toNat)] : List (List UInt8))))
def base_Split_q (s0 : List UInt8) (c1 : Int) (K : List (List UInt8) → Prop) : Prop :=
 LoopJ (List (List UInt8) × Int × Int × Unit) (([] : List (List UInt8)), (0 : Int), (0 : Int), ()) fun y next =>
 WfY pl_base_Split_4.kinds y →
 base_Split_l4 s0 c1 y.1 y.2.1 y.2.2.1 next K
noncomputable def tab_base_Split : List (Nat × Ct) := []
theorem base_Split_eq : (fun (x : PkTs base_Split_ps) (K : PkTs base_Split_rs → Prop) => base_Split_q x.1 x.2.1 (fun r0 => K (r0, ()))) = fun x K => PCode Tryd.prog tab_base_Split plan_base_Split (bodyOf Tryd.f46) (parS base_Split_ps x) (PRet Tryd.prog Tryd.f46.results.toList fun a st => outP base_Split_rs st a K) := by kernel_rfl
theorem base_Split_fq : FnQ Tryd.prog f_base_Split base_Split_ps base_Split_rs (fun x K => base_Split_q x.1 x.2.1 (fun r0 => K (r0, ()))) := (fnQ_of k_base_Split (tab := tab_base_Split) trivial rfl).of_eq base_Split_eq
noncomputable def ct_base_Split : Ct := ctVal base_Split_ps base_Split_rs (fun x K => base_Split_q x.1 x.2.1 (fun r0 => K (r0, ())))
theorem ct_base_Split_ok : SoundCt Tryd.prog f_base_Split ct_base_Split := ctVal_sound base_Split_fq
def pl_base_Whole_5 : PLoop := ⟨[(6, PK.int .i64), (7, PK.int .i64)], [0], none⟩
def plan_base_Whole : PPlan := ⟨[], [(5, pl_base_Whole_5)], [], [], [], []⟩
theorem k_base_Whole : Known Tryd.prog f_base_Whole Tryd.f47 plan_base_Whole.plan (bodyOf Tryd.f47) := ⟨Tryd.func47, by kernel_rfl, by kernel_rfl, by kernel_rfl, by kernel_rfl, by kernel_rfl⟩
abbrev base_Whole_ps : List Pk := [Pk.str, Pk.int .i64]
abbrev base_Whole_rs : List Pk := [Pk.int .i64, Pk.bool]
def base_Whole_j1 (s0 : List UInt8) (n6 : Int) (i7 : Int) (next5 : (Int × Int × Unit) → Prop) (j3 : Bool) (K : Int → Bool → Prop) : Prop :=
 IfB j3
 (K 0 false)
 ((0 : Int) ≤ i7 ∧ AtN s0 i7.toNat fun x46 =>
 next5 ((IntKind.wrap .i64 ((IntKind.wrap .i64 (10 * n6)) + (IntKind.wrap .i64 (IntKind.wrap .u8 ((x46.toNat : Int) - 48))))), (IntKind.wrap .i64 (i7 + 1)), ()))
def base_Whole_l5 (s0 : List UInt8) (n6 : Int) (i7 : Int) (next5 : (Int × Int × Unit) → Prop) (K : Int → Bool → Prop) : Prop :=
 IfB (decide ((i7 : Int) < (s0.length : Int)))
 ((0 : Int) ≤ i7 ∧ AtN s0 i7.toNat fun x34 =>
 IfB (decide (((x34.toNat : Int) : Int) < 48))
 (base_Whole_j1 s0 n6 i7 next5 true K)
 ((0 : Int) ≤ i7 ∧ AtN s0 i7.toNat fun x39 =>
 base_Whole_j1 s0 n6 i7 next5 (decide (((x39.toNat : Int) : Int) > 57)) K))
 (K n6 true)
def base_Whole_j0 (s0 : List UInt8) (j1 : Bool) (K : Int → Bool → Prop) : Prop :=
 IfB j1
 (K 0 false)
 (LoopJ (Int × Int × Unit) ((0 : Int), (0 : Int), ()) fun y next =>
 WfY pl_base_Whole_5.kinds y →
 base_Whole_l5 s0 y.1 y.2.1 next K)
def base_Whole_q (s0 : List UInt8) (most1 : Int) (K : Int → Bool → Prop) : Prop :=
 IfB (s0 == ([] : List UInt8))
 (base_Whole_j0 s0 true K)
 (IfB (decide (((s0.length : Int) : Int) > most1))
 (base_Whole_j0 s0 true K)
 (IfB (decide (((s0.length : Int) : Int) > 1))
 ((0 : Int) ≤ 0 ∧ AtN s0 0 fun x22 =>
 base_Whole_j0 s0 (((x22.toNat : Int) : Int) == 48) K)
 (base_Whole_j0 s0 false K)))
noncomputable def tab_base_Whole : List (Nat × Ct) := []
theorem base_Whole_eq : (fun (x : PkTs base_Whole_ps) (K : PkTs base_Whole_rs → Prop) => base_Whole_q x.1 x.2.1 (fun r0 r1 => K (r0, r1, ()))) = fun x K => PCode Tryd.prog tab_base_Whole plan_base_Whole (bodyOf Tryd.f47) (parS base_Whole_ps x) (PRet Tryd.prog Tryd.f47.results.toList fun a st => outP base_Whole_rs st a K) := by kernel_rfl
theorem base_Whole_fq : FnQ Tryd.prog f_base_Whole base_Whole_ps base_Whole_rs (fun x K => base_Whole_q x.1 x.2.1 (fun r0 r1 => K (r0, r1, ()))) := (fnQ_of k_base_Whole (tab := tab_base_Whole) trivial rfl).of_eq base_Whole_eq
noncomputable def ct_base_Whole : Ct := ctRd base_Whole_ps base_Whole_rs (fun x K => base_Whole_q x.1 x.2.1 (fun r0 r1 => K (r0, r1, ())))
theorem ct_base_Whole_ok : SoundCt Tryd.prog f_base_Whole ct_base_Whole := ctRd_sound base_Whole_fq
def pl_ref07_Parse_8 : PLoop := ⟨[(5, PK.int .u32), (6, PK.int .i64)], [4], none⟩
def plan_ref07_Parse : PPlan := ⟨[], [(8, pl_ref07_Parse_8)], [], [], [], []⟩
theorem k_ref07_Parse : Known Tryd.prog f_ref07_Parse Tryd.f24 plan_ref07_Parse.plan (bodyOf Tryd.f24) := ⟨Tryd.func24, by kernel_rfl, by kernel_rfl, by kernel_rfl, by kernel_rfl, by kernel_rfl⟩
abbrev ref07_Parse_ps : List Pk := [Pk.str]
abbrev ref07_Parse_rs : List Pk := [Pk.int .u32, Pk.int .i64]
def ref07_Parse_j0 (x13 : List (List UInt8)) (a5 : Int) (i6 : Int) (x26r0 : Int) (next8 : (Int × Int × Unit) → Prop) (j4 : Bool) (K : Int → Int → Prop) : Prop :=
 IfB j4
 (K 0 2)
 (next8 ((IntKind.wrap .u32 ((IntKind.wrap .u32 (256 * a5)) + (IntKind.wrap .u32 x26r0))), (IntKind.wrap .i64 (i6 + 1)), ()))
def ref07_Parse_l8 (x13 : List (List UInt8)) (a5 : Int) (i6 : Int) (next8 : (Int × Int × Unit) → Prop) (K : Int → Int → Prop) : Prop :=
 IfB (decide ((i6 : Int) < 4))
 ((0 : Int) ≤ i6 ∧ i6 < (x13.length : Int) ∧
 AtN x13 i6.toNat fun x25 =>
 WfT ks_str x25 →
 (WfPs base_Whole_ps (x25, (3 : Int), ()) →
 base_Whole_q x25 (3 : Int) (fun x26r0 x26r1 =>
 WfPs base_Whole_rs (x26r0, x26r1, ()) →
 IfB (!x26r1)
 (ref07_Parse_j0 x13 a5 i6 x26r0 next8 true K)
 (ref07_Parse_j0 x13 a5 i6 x26r0 next8 (decide ((x26r0 : Int) > 255)) K))))
 (K a5 0)
def ref07_Parse_q (s0 : List UInt8) (K : Int → Int → Prop) : Prop :=
 IfB (decide (((s0.length : Int) : Int) > 15))
 (K 0 2)
 ((WfPs base_Split_ps (s0, (46 : Int), ()) →
 base_Split_q s0 (46 : Int) (fun x13 =>
 WfPs base_Split_rs (x13, ()) →
 IfB (((x13.length : Int) : Int) != 4)
 (K 0 2)
 (LoopJ (Int × Int × Unit) ((0 : Int), (0 : Int), ()) fun y next =>
 WfY pl_ref07_Parse_8.kinds y →
 ref07_Parse_l8 x13 y.1 y.2.1 next K))))
noncomputable def tab_ref07_Parse : List (Nat × Ct) := [(f_base_Split, ct_base_Split), (f_base_Whole, ct_base_Whole)]
theorem ref07_Parse_eq : (fun (x : PkTs ref07_Parse_ps) (K : PkTs ref07_Parse_rs → Prop) => ref07_Parse_q x.1 (fun r0 r1 => K (r0, r1, ()))) = fun x K => PCode Tryd.prog tab_ref07_Parse plan_ref07_Parse (bodyOf Tryd.f24) (parS ref07_Parse_ps x) (PRet Tryd.prog Tryd.f24.results.toList fun a st => outP ref07_Parse_rs st a K) := by kernel_rfl
theorem ref07_Parse_fq : FnQ Tryd.prog f_ref07_Parse ref07_Parse_ps ref07_Parse_rs (fun x K => ref07_Parse_q x.1 (fun r0 r1 => K (r0, r1, ()))) := (fnQ_of k_ref07_Parse (tab := tab_ref07_Parse) ⟨ct_base_Split_ok, ct_base_Whole_ok, trivial⟩ rfl).of_eq ref07_Parse_eq
noncomputable def ct_ref07_Parse : Ct := ctRd ref07_Parse_ps ref07_Parse_rs (fun x K => ref07_Parse_q x.1 (fun r0 r1 => K (r0, r1, ())))
theorem ct_ref07_Parse_ok : SoundCt Tryd.prog f_ref07_Parse ct_ref07_Parse := ctRd_sound ref07_Parse_fq
def plan_ref07_two : PPlan := ⟨[], [], [], [], [], []⟩
theorem k_ref07_two : Known Tryd.prog f_ref07_two Tryd.f35 plan_ref07_two.plan (bodyOf Tryd.f35) := ⟨Tryd.func35, by kernel_rfl, by kernel_rfl, by kernel_rfl, by kernel_rfl, by kernel_rfl⟩
abbrev ref07_two_ps : List Pk := [Pk.int .i64]
abbrev ref07_two_rs : List Pk := [Pk.own T_uint8 [Kd.int .u8]]
def ref07_two_q (n0 : Int) (K : List UInt8 → Prop) : Prop :=
 (256 : Int) ≠ 0 ∧
 (256 : Int) ≠ 0 ∧
 (256 : Int) ≠ 0 ∧
 K ([(ofI .u8 (IntKind.wrap .u8 (Int.tmod (IntKind.wrap .i64 (Int.tdiv n0 256)) 256))), (ofI .u8 (IntKind.wrap .u8 (Int.tmod n0 256)))] : List UInt8)
noncomputable def tab_ref07_two : List (Nat × Ct) := []
theorem ref07_two_eq : (fun (x : PkTs ref07_two_ps) (K : PkTs ref07_two_rs → Prop) => ref07_two_q x.1 (fun r0 => K (r0, ()))) = fun x K => PCode Tryd.prog tab_ref07_two plan_ref07_two (bodyOf Tryd.f35) (parS ref07_two_ps x) (PRet Tryd.prog Tryd.f35.results.toList fun a st => outP ref07_two_rs st a K) := by kernel_rfl
theorem ref07_two_fq : FnQ Tryd.prog f_ref07_two ref07_two_ps ref07_two_rs (fun x K => ref07_two_q x.1 (fun r0 => K (r0, ()))) := (fnQ_of k_ref07_two (tab := tab_ref07_two) trivial rfl).of_eq ref07_two_eq
noncomputable def ct_ref07_two : Ct := ctVal ref07_two_ps ref07_two_rs (fun x K => ref07_two_q x.1 (fun r0 => K (r0, ())))
theorem ct_ref07_two_ok : SoundCt Tryd.prog f_ref07_two ct_ref07_two := ctVal_sound ref07_two_fq
def plan_ref07_four : PPlan := ⟨[], [], [], [], [], []⟩
theorem k_ref07_four : Known Tryd.prog f_ref07_four Tryd.f36 plan_ref07_four.plan (bodyOf Tryd.f36) := ⟨Tryd.func36, by kernel_rfl, by kernel_rfl, by kernel_rfl, by kernel_rfl, by kernel_rfl⟩
abbrev ref07_four_ps : List Pk := [Pk.int .u32]
abbrev ref07_four_rs : List Pk := [Pk.lst [Kd.int .u8]]
def ref07_four_q (a0 : Int) (K : List UInt8 → Prop) : Prop :=
 (65536 : Int) ≠ 0 ∧
 (WfPs ref07_two_ps ((IntKind.wrap .i64 (IntKind.wrap .u32 (Int.tdiv a0 65536))), ()) →
 ref07_two_q (IntKind.wrap .i64 (IntKind.wrap .u32 (Int.tdiv a0 65536))) (fun x6 =>
 WfPs ref07_two_rs (x6, ()) →
 (65536 : Int) ≠ 0 ∧
 (WfPs ref07_two_ps ((IntKind.wrap .i64 (Int.tmod a0 65536)), ()) →
 ref07_two_q (IntKind.wrap .i64 (Int.tmod a0 65536)) (fun x10 =>
 WfPs ref07_two_rs (x10, ()) →
 x6.length + x10.length ≤ 140737488355232 ∧
 K (x6 ++ x10)))))
noncomputable def tab_ref07_four : List (Nat × Ct) := [(f_ref07_two, ct_ref07_two)]
theorem ref07_four_eq : (fun (x : PkTs ref07_four_ps) (K : PkTs ref07_four_rs → Prop) => ref07_four_q x.1 (fun r0 => K (r0, ()))) = fun x K => PCode Tryd.prog tab_ref07_four plan_ref07_four (bodyOf Tryd.f36) (parS ref07_four_ps x) (PRet Tryd.prog Tryd.f36.results.toList fun a st => outP ref07_four_rs st a K) := by kernel_rfl
theorem ref07_four_fq : FnQ Tryd.prog f_ref07_four ref07_four_ps ref07_four_rs (fun x K => ref07_four_q x.1 (fun r0 => K (r0, ()))) := (fnQ_of k_ref07_four (tab := tab_ref07_four) ⟨ct_ref07_two_ok, trivial⟩ rfl).of_eq ref07_four_eq
noncomputable def ct_ref07_four : Ct := ctVal ref07_four_ps ref07_four_rs (fun x K => ref07_four_q x.1 (fun r0 => K (r0, ())))
theorem ct_ref07_four_ok : SoundCt Tryd.prog f_ref07_four ct_ref07_four := ctVal_sound ref07_four_fq
def pl_base_Itoa_4 : PLoop := ⟨[(3, PK.str), (4, PK.int .i64)], [0], none⟩
def plan_base_Itoa : PPlan := ⟨[], [(4, pl_base_Itoa_4)], [], [], [], []⟩
theorem k_base_Itoa : Known Tryd.prog f_base_Itoa Tryd.f50 plan_base_Itoa.plan (bodyOf Tryd.f50) := ⟨Tryd.func50, by kernel_rfl, by kernel_rfl, by kernel_rfl, by kernel_rfl, by kernel_rfl⟩
abbrev base_Itoa_ps : List Pk := [Pk.int .i64]
abbrev base_Itoa_rs : List Pk := [Pk.str]
def base_Itoa_j0 (n0 : Int) (s3 : List UInt8) (x4 : Int) (next4 : (List UInt8 × Int × Unit) → Prop) (j3 : Int) (K : List UInt8 → Prop) : Prop :=
 ([(ofI .u8 (IntKind.wrap .u8 (IntKind.wrap .i64 (48 + j3))))] : List UInt8).length + s3.length ≤ lenMax ∧
 (10 : Int) ≠ 0 ∧
 next4 ((([(ofI .u8 (IntKind.wrap .u8 (IntKind.wrap .i64 (48 + j3))))] : List UInt8) ++ s3), (IntKind.wrap .i64 (Int.tdiv x4 10)), ())
def base_Itoa_l4 (n0 : Int) (s3 : List UInt8) (x4 : Int) (next4 : (List UInt8 × Int × Unit) → Prop) (K : List UInt8 → Prop) : Prop :=
 IfB ((x4 : Int) != 0)
 ((10 : Int) ≠ 0 ∧
 IfB (decide (((Int.tmod x4 10) : Int) < 0))
 (base_Itoa_j0 n0 s3 x4 next4 (IntKind.wrap .i64 (0 - (Int.tmod x4 10))) K)
 (base_Itoa_j0 n0 s3 x4 next4 (Int.tmod x4 10) K))
 (IfB (decide ((n0 : Int) < 0))
 (([45] : List UInt8).length + s3.length ≤ lenMax ∧
 K (([45] : List UInt8) ++ s3))
 (K s3))
def base_Itoa_q (n0 : Int) (K : List UInt8 → Prop) : Prop :=
 IfB ((n0 : Int) == 0)
 (K ([48] : List UInt8))
 (LoopJ (List UInt8 × Int × Unit) (([] : List UInt8), n0, ()) fun y next =>
 WfY pl_base_Itoa_4.kinds y →
 base_Itoa_l4 n0 y.1 y.2.1 next K)
noncomputable def tab_base_Itoa : List (Nat × Ct) := []
theorem base_Itoa_eq : (fun (x : PkTs base_Itoa_ps) (K : PkTs base_Itoa_rs → Prop) => base_Itoa_q x.1 (fun r0 => K (r0, ()))) = fun x K => PCode Tryd.prog tab_base_Itoa plan_base_Itoa (bodyOf Tryd.f50) (parS base_Itoa_ps x) (PRet Tryd.prog Tryd.f50.results.toList fun a st => outP base_Itoa_rs st a K) := by kernel_rfl
theorem base_Itoa_fq : FnQ Tryd.prog f_base_Itoa base_Itoa_ps base_Itoa_rs (fun x K => base_Itoa_q x.1 (fun r0 => K (r0, ()))) := (fnQ_of k_base_Itoa (tab := tab_base_Itoa) trivial rfl).of_eq base_Itoa_eq
noncomputable def ct_base_Itoa : Ct := ctRd base_Itoa_ps base_Itoa_rs (fun x K => base_Itoa_q x.1 (fun r0 => K (r0, ())))
theorem ct_base_Itoa_ok : SoundCt Tryd.prog f_base_Itoa ct_base_Itoa := ctRd_sound base_Itoa_fq
def plan_ref07_Text : PPlan := ⟨[(2, [0, 1, 2, 3, 6, 7, 8, 9, 13, 14, 15, 16, 20, 21, 22, 23, 4, 5, 10, 11, 12, 17, 18, 19, 24, 25, 26], [14, 21, 28])], [], [], [], [], []⟩
theorem k_ref07_Text : Known Tryd.prog f_ref07_Text Tryd.f26 plan_ref07_Text.plan (bodyOf Tryd.f26) := ⟨Tryd.func26, by kernel_rfl, by kernel_rfl, by kernel_rfl, by kernel_rfl, by kernel_rfl⟩
abbrev ref07_Text_ps : List Pk := [Pk.int .u32]
abbrev ref07_Text_rs : List Pk := [Pk.str]
def ref07_Text_q (a0 : Int) (K : List UInt8 → Prop) : Prop :=
 (WfPs ref07_four_ps (a0, ()) →
 ref07_four_q a0 (fun x5 =>
 WfPs ref07_four_rs (x5, ()) →
 (0 : Int) ≤ 0 ∧ AtN x5 0 fun x7 =>
 WfT ks_int_u8 x7 →
 (0 : Int) ≤ 1 ∧ AtN x5 1 fun x13 =>
 WfT ks_int_u8 x13 →
 (0 : Int) ≤ 2 ∧ AtN x5 2 fun x20 =>
 WfT ks_int_u8 x20 →
 (0 : Int) ≤ 3 ∧ AtN x5 3 fun x27 =>
 WfT ks_int_u8 x27 →
 (WfPs base_Itoa_ps ((IntKind.wrap .i64 (x7.toNat : Int)), ()) →
 base_Itoa_q (IntKind.wrap .i64 (x7.toNat : Int)) (fun x10 =>
 WfPs base_Itoa_rs (x10, ()) →
 x10.length + ([46] : List UInt8).length ≤ lenMax ∧
 (WfPs base_Itoa_ps ((IntKind.wrap .i64 (x13.toNat : Int)), ()) →
 base_Itoa_q (IntKind.wrap .i64 (x13.toNat : Int)) (fun x16 =>
 WfPs base_Itoa_rs (x16, ()) →
 (x10 ++ ([46] : List UInt8)).length + x16.length ≤ lenMax ∧
 ((x10 ++ ([46] : List UInt8)) ++ x16).length + ([46] : List UInt8).length ≤ lenMax ∧
 (WfPs base_Itoa_ps ((IntKind.wrap .i64 (x20.toNat : Int)), ()) →
 base_Itoa_q (IntKind.wrap .i64 (x20.toNat : Int)) (fun x23 =>
 WfPs base_Itoa_rs (x23, ()) →
 (((x10 ++ ([46] : List UInt8)) ++ x16) ++ ([46] : List UInt8)).length + x23.length ≤ lenMax ∧
 ((((x10 ++ ([46] : List UInt8)) ++ x16) ++ ([46] : List UInt8)) ++ x23).length + ([46] : List UInt8).length ≤ lenMax ∧
 (WfPs base_Itoa_ps ((IntKind.wrap .i64 (x27.toNat : Int)), ()) →
 base_Itoa_q (IntKind.wrap .i64 (x27.toNat : Int)) (fun x30 =>
 WfPs base_Itoa_rs (x30, ()) →
 (((((x10 ++ ([46] : List UInt8)) ++ x16) ++ ([46] : List UInt8)) ++ x23) ++ ([46] : List UInt8)).length + x30.length ≤ lenMax ∧
 K ((((((x10 ++ ([46] : List UInt8)) ++ x16) ++ ([46] : List UInt8)) ++ x23) ++ ([46] : List UInt8)) ++ x30)))))))))))
noncomputable def tab_ref07_Text : List (Nat × Ct) := [(f_ref07_four, ct_ref07_four), (f_base_Itoa, ct_base_Itoa)]
theorem ref07_Text_eq : (fun (x : PkTs ref07_Text_ps) (K : PkTs ref07_Text_rs → Prop) => ref07_Text_q x.1 (fun r0 => K (r0, ()))) = fun x K => PCode Tryd.prog tab_ref07_Text plan_ref07_Text (bodyOf Tryd.f26) (parS ref07_Text_ps x) (PRet Tryd.prog Tryd.f26.results.toList fun a st => outP ref07_Text_rs st a K) := by kernel_rfl
theorem ref07_Text_fq : FnQ Tryd.prog f_ref07_Text ref07_Text_ps ref07_Text_rs (fun x K => ref07_Text_q x.1 (fun r0 => K (r0, ()))) := (fnQ_of k_ref07_Text (tab := tab_ref07_Text) ⟨ct_ref07_four_ok, ct_base_Itoa_ok, trivial⟩ rfl).of_eq ref07_Text_eq
noncomputable def ct_ref07_Text : Ct := ctRd ref07_Text_ps ref07_Text_rs (fun x K => ref07_Text_q x.1 (fun r0 => K (r0, ())))
theorem ct_ref07_Text_ok : SoundCt Tryd.prog f_ref07_Text ct_ref07_Text := ctRd_sound ref07_Text_fq
def plan_ip_Mine : PPlan := ⟨[], [], [], [], [], []⟩
theorem k_ip_Mine : Known Tryd.prog f_ip_Mine Tryd.f27 plan_ip_Mine.plan (bodyOf Tryd.f27) := ⟨Tryd.func27, by kernel_rfl, by kernel_rfl, by kernel_rfl, by kernel_rfl, by kernel_rfl⟩
abbrev ip_Mine_ps : List Pk := [Pk.int .u32, Pk.int .u32]
abbrev ip_Mine_rs : List Pk := [Pk.bool]
def ip_Mine_q (me0 : Int) (to1 : Int) (K : Bool → Prop) : Prop :=
 IfB ((to1 : Int) == me0)
 (K true)
 (K ((to1 : Int) == 4294967295))
noncomputable def tab_ip_Mine : List (Nat × Ct) := []
theorem ip_Mine_eq : (fun (x : PkTs ip_Mine_ps) (K : PkTs ip_Mine_rs → Prop) => ip_Mine_q x.1 x.2.1 (fun r0 => K (r0, ()))) = fun x K => PCode Tryd.prog tab_ip_Mine plan_ip_Mine (bodyOf Tryd.f27) (parS ip_Mine_ps x) (PRet Tryd.prog Tryd.f27.results.toList fun a st => outP ip_Mine_rs st a K) := by kernel_rfl
theorem ip_Mine_fq : FnQ Tryd.prog f_ip_Mine ip_Mine_ps ip_Mine_rs (fun x K => ip_Mine_q x.1 x.2.1 (fun r0 => K (r0, ()))) := (fnQ_of k_ip_Mine (tab := tab_ip_Mine) trivial rfl).of_eq ip_Mine_eq
noncomputable def ct_ip_Mine : Ct := ctRd ip_Mine_ps ip_Mine_rs (fun x K => ip_Mine_q x.1 x.2.1 (fun r0 => K (r0, ())))
theorem ct_ip_Mine_ok : SoundCt Tryd.prog f_ip_Mine ct_ip_Mine := ctRd_sound ip_Mine_fq
def plan_ref07_Mine : PPlan := ⟨[], [], [], [], [], []⟩
theorem k_ref07_Mine : Known Tryd.prog f_ref07_Mine Tryd.f28 plan_ref07_Mine.plan (bodyOf Tryd.f28) := ⟨Tryd.func28, by kernel_rfl, by kernel_rfl, by kernel_rfl, by kernel_rfl, by kernel_rfl⟩
abbrev ref07_Mine_ps : List Pk := [Pk.int .u32, Pk.int .u32]
abbrev ref07_Mine_rs : List Pk := [Pk.bool]
def ref07_Mine_q (me0 : Int) (to1 : Int) (K : Bool → Prop) : Prop :=
 IfB ((me0 : Int) == to1)
 (K true)
 (K ((to1 : Int) == 4294967295))
noncomputable def tab_ref07_Mine : List (Nat × Ct) := []
theorem ref07_Mine_eq : (fun (x : PkTs ref07_Mine_ps) (K : PkTs ref07_Mine_rs → Prop) => ref07_Mine_q x.1 x.2.1 (fun r0 => K (r0, ()))) = fun x K => PCode Tryd.prog tab_ref07_Mine plan_ref07_Mine (bodyOf Tryd.f28) (parS ref07_Mine_ps x) (PRet Tryd.prog Tryd.f28.results.toList fun a st => outP ref07_Mine_rs st a K) := by kernel_rfl
theorem ref07_Mine_fq : FnQ Tryd.prog f_ref07_Mine ref07_Mine_ps ref07_Mine_rs (fun x K => ref07_Mine_q x.1 x.2.1 (fun r0 => K (r0, ()))) := (fnQ_of k_ref07_Mine (tab := tab_ref07_Mine) trivial rfl).of_eq ref07_Mine_eq
noncomputable def ct_ref07_Mine : Ct := ctRd ref07_Mine_ps ref07_Mine_rs (fun x K => ref07_Mine_q x.1 x.2.1 (fun r0 => K (r0, ())))
theorem ct_ref07_Mine_ok : SoundCt Tryd.prog f_ref07_Mine ct_ref07_Mine := ctRd_sound ref07_Mine_fq
def plan_law07_IpTexts : PPlan := ⟨[], [], [], [], [], []⟩
theorem k_law07_IpTexts : Known Tryd.prog f_law07_IpTexts Tryd.f9 plan_law07_IpTexts.plan (bodyOf Tryd.f9) := ⟨Tryd.func9, by kernel_rfl, by kernel_rfl, by kernel_rfl, by kernel_rfl, by kernel_rfl⟩
abbrev law07_IpTexts_ps : List Pk := [Pk.int .u32, Pk.int .u32, Pk.str]
abbrev law07_IpTexts_rs : List Pk := [Pk.bool]
def law07_IpTexts_q (a0 : Int) (to1 : Int) (s2 : List UInt8) (K : Bool → Prop) : Prop :=
 (0 : Int) ≤ (min (s2.length : Int) 40) ∧ (min (s2.length : Int) 40) ≤ (s2.length : Int) ∧
 (WfPs ip_Parse_ps ((s2.take ((min (s2.length : Int) 40).toNat)), ()) →
 ip_Parse_q (s2.take ((min (s2.length : Int) 40).toNat)) (fun x20r0 x20r1 =>
 WfPs ip_Parse_rs (x20r0, x20r1, ()) →
 (WfPs ref07_Parse_ps ((s2.take ((min (s2.length : Int) 40).toNat)), ()) →
 ref07_Parse_q (s2.take ((min (s2.length : Int) 40).toNat)) (fun x25r0 x25r1 =>
 WfPs ref07_Parse_rs (x25r0, x25r1, ()) →
 (WfPs ip_Text_ps (a0, ()) →
 ip_Text_q a0 (fun x30 =>
 WfPs ip_Text_rs (x30, ()) →
 (WfPs ip_Parse_ps (x30, ()) →
 ip_Parse_q x30 (fun x31r0 x31r1 =>
 WfPs ip_Parse_rs (x31r0, x31r1, ()) →
 (WfPs ip_Text_ps (a0, ()) →
 ip_Text_q a0 (fun x35 =>
 WfPs ip_Text_rs (x35, ()) →
 (WfPs ref07_Text_ps (a0, ()) →
 ref07_Text_q a0 (fun x37 =>
 WfPs ref07_Text_rs (x37, ()) →
 IfB (x35 == x37)
 (IfB ((x20r0 : Int) == x25r0)
 (IfB ((x20r1 : Int) == x25r1)
 ((WfPs ip_Mine_ps (a0, to1, ()) →
 ip_Mine_q a0 to1 (fun x52 =>
 WfPs ip_Mine_rs (x52, ()) →
 (WfPs ref07_Mine_ps (a0, to1, ()) →
 ref07_Mine_q a0 to1 (fun x55 =>
 WfPs ref07_Mine_rs (x55, ()) →
 IfB (x52 == x55)
 (IfB ((x31r0 : Int) == a0)
 (IfB ((x31r1 : Int) == 0)
 (IfB ((x20r1 : Int) != 0)
 ((WfPs law07_works_ps (()) →
 law07_works_q  (fun x78 =>
 WfPs law07_works_rs (x78, ()) →
 K x78)))
 ((WfPs ip_Text_ps (x20r0, ()) →
 ip_Text_q x20r0 (fun x72 =>
 WfPs ip_Text_rs (x72, ()) →
 IfB (x72 == (s2.take ((min (s2.length : Int) 40).toNat)))
 ((WfPs law07_works_ps (()) →
 law07_works_q  (fun x78_1 =>
 WfPs law07_works_rs (x78_1, ()) →
 K x78_1)))
 (K false)))))
 (K false))
 (K false))
 (K false))))))
 (K false))
 (K false))
 (K false)))))))))))))
noncomputable def tab_law07_IpTexts : List (Nat × Ct) := [(f_law07_works, ct_law07_works), (f_ip_Parse, ct_ip_Parse), (f_ref07_Parse, ct_ref07_Parse), (f_ip_Text, ct_ip_Text), (f_ref07_Text, ct_ref07_Text), (f_ip_Mine, ct_ip_Mine), (f_ref07_Mine, ct_ref07_Mine)]
theorem law07_IpTexts_eq : (fun (x : PkTs law07_IpTexts_ps) (K : PkTs law07_IpTexts_rs → Prop) => law07_IpTexts_q x.1 x.2.1 x.2.2.1 (fun r0 => K (r0, ()))) = fun x K => PCode Tryd.prog tab_law07_IpTexts plan_law07_IpTexts (bodyOf Tryd.f9) (parS law07_IpTexts_ps x) (PRet Tryd.prog Tryd.f9.results.toList fun a st => outP law07_IpTexts_rs st a K) := by kernel_rfl
theorem law07_IpTexts_fq : FnQ Tryd.prog f_law07_IpTexts law07_IpTexts_ps law07_IpTexts_rs (fun x K => law07_IpTexts_q x.1 x.2.1 x.2.2.1 (fun r0 => K (r0, ()))) := (fnQ_of k_law07_IpTexts (tab := tab_law07_IpTexts) ⟨ct_law07_works_ok, ct_ip_Parse_ok, ct_ref07_Parse_ok, ct_ip_Text_ok, ct_ref07_Text_ok, ct_ip_Mine_ok, ct_ref07_Mine_ok, trivial⟩ rfl).of_eq law07_IpTexts_eq
noncomputable def ct_law07_IpTexts : Ct := ctRd law07_IpTexts_ps law07_IpTexts_rs (fun x K => law07_IpTexts_q x.1 x.2.1 x.2.2.1 (fun r0 => K (r0, ())))
theorem ct_law07_IpTexts_ok : SoundCt Tryd.prog f_law07_IpTexts ct_law07_IpTexts := ctRd_sound law07_IpTexts_fq
def plan_base_Bytes : PPlan := ⟨[], [], [], [], [], []⟩
theorem k_base_Bytes : Known Tryd.prog f_base_Bytes Tryd.f17 plan_base_Bytes.plan (bodyOf Tryd.f17) := ⟨Tryd.func17, by kernel_rfl, by kernel_rfl, by kernel_rfl, by kernel_rfl, by kernel_rfl⟩
abbrev base_Bytes_ps : List Pk := [Pk.lst [Kd.int .u8]]
abbrev base_Bytes_rs : List Pk := [Pk.own T_uint8 [Kd.int .u8]]
def base_Bytes_q (b0 : List UInt8) (K : List UInt8 → Prop) : Prop :=
 ([] : List UInt8).length + b0.length ≤ 140737488355232 ∧
 K (([] : List UInt8) ++ b0)
noncomputable def tab_base_Bytes : List (Nat × Ct) := []
theorem base_Bytes_eq : (fun (x : PkTs base_Bytes_ps) (K : PkTs base_Bytes_rs → Prop) => base_Bytes_q x.1 (fun r0 => K (r0, ()))) = fun x K => PCode Tryd.prog tab_base_Bytes plan_base_Bytes (bodyOf Tryd.f17) (parS base_Bytes_ps x) (PRet Tryd.prog Tryd.f17.results.toList fun a st => outP base_Bytes_rs st a K) := by kernel_rfl
theorem base_Bytes_fq : FnQ Tryd.prog f_base_Bytes base_Bytes_ps base_Bytes_rs (fun x K => base_Bytes_q x.1 (fun r0 => K (r0, ()))) := (fnQ_of k_base_Bytes (tab := tab_base_Bytes) trivial rfl).of_eq base_Bytes_eq
noncomputable def ct_base_Bytes : Ct := ctVal base_Bytes_ps base_Bytes_rs (fun x K => base_Bytes_q x.1 (fun r0 => K (r0, ())))
theorem ct_base_Bytes_ok : SoundCt Tryd.prog f_base_Bytes ct_base_Bytes := ctVal_sound base_Bytes_fq
def plan_law07_few : PPlan := ⟨[], [], [], [], [], []⟩
theorem k_law07_few : Known Tryd.prog f_law07_few Tryd.f10 plan_law07_few.plan (bodyOf Tryd.f10) := ⟨Tryd.func10, by kernel_rfl, by kernel_rfl, by kernel_rfl, by kernel_rfl, by kernel_rfl⟩
abbrev law07_few_ps : List Pk := [Pk.agg [Kd.int .i64, Kd.int .i64, Kd.int .i64, Kd.int .i64, Kd.bool, Kd.bool, Kd.int .u32, Kd.int .u32, Kd.lst [Kd.int .u8]], Pk.int .i64]
abbrev law07_few_rs : List Pk := [Pk.agg [Kd.int .i64, Kd.int .i64, Kd.int .i64, Kd.int .i64, Kd.bool, Kd.bool, Kd.int .u32, Kd.int .u32, Kd.lst [Kd.int .u8]]]
def law07_few_j0 (p0 : Int × Int × Int × Int × Bool × Bool × UInt32 × UInt32 × List UInt8) (j8 : List UInt8) (K : (Int × Int × Int × Int × Bool × Bool × UInt32 × UInt32 × List UInt8) → Prop) : Prop :=
 K (p0.1, p0.2.1, p0.2.2.1, p0.2.2.2.1, p0.2.2.2.2.1, p0.2.2.2.2.2.1, (ofI .u32 (p0.2.2.2.2.2.2.1.toNat : Int)), (ofI .u32 (p0.2.2.2.2.2.2.2.1.toNat : Int)), j8)
def law07_few_q (p0 : Int × Int × Int × Int × Bool × Bool × UInt32 × UInt32 × List UInt8) (most1 : Int) (K : (Int × Int × Int × Int × Bool × Bool × UInt32 × UInt32 × List UInt8) → Prop) : Prop :=
 IfB (decide (((p0.2.2.2.2.2.2.2.2.length : Int) : Int) > 65515))
 ((0 : Int) ≤ 65516 ∧ (65516 : Int) ≤ 65516 ∧ (65516 : Int) ≤ 1000000000 ∧
 law07_few_j0 p0 (List.replicate 65516 ((ofI .u8 0) : UInt8)) K)
 ((0 : Int) ≤ (min (p0.2.2.2.2.2.2.2.2.length : Int) most1) ∧ (min (p0.2.2.2.2.2.2.2.2.length : Int) most1) ≤ (p0.2.2.2.2.2.2.2.2.length : Int) ∧
 (WfPs base_Bytes_ps ((p0.2.2.2.2.2.2.2.2.take ((min (p0.2.2.2.2.2.2.2.2.length : Int) most1).toNat)), ()) →
 base_Bytes_q (p0.2.2.2.2.2.2.2.2.take ((min (p0.2.2.2.2.2.2.2.2.length : Int) most1).toNat)) (fun x19 =>
 WfPs base_Bytes_rs (x19, ()) →
 law07_few_j0 p0 x19 K)))
noncomputable def tab_law07_few : List (Nat × Ct) := [(f_base_Bytes, ct_base_Bytes)]
theorem law07_few_eq : (fun (x : PkTs law07_few_ps) (K : PkTs law07_few_rs → Prop) => law07_few_q x.1 x.2.1 (fun r0 => K (r0, ()))) = fun x K => PCode Tryd.prog tab_law07_few plan_law07_few (bodyOf Tryd.f10) (parS law07_few_ps x) (PRet Tryd.prog Tryd.f10.results.toList fun a st => outP law07_few_rs st a K) := by kernel_rfl
theorem law07_few_fq : FnQ Tryd.prog f_law07_few law07_few_ps law07_few_rs (fun x K => law07_few_q x.1 x.2.1 (fun r0 => K (r0, ()))) := (fnQ_of k_law07_few (tab := tab_law07_few) ⟨ct_base_Bytes_ok, trivial⟩ rfl).of_eq law07_few_eq
noncomputable def ct_law07_few : Ct := ctVal law07_few_ps law07_few_rs (fun x K => law07_few_q x.1 x.2.1 (fun r0 => K (r0, ())))
theorem ct_law07_few_ok : SoundCt Tryd.prog f_law07_few ct_law07_few := ctVal_sound law07_few_fq
def plan_ref07_within : PPlan := ⟨[], [], [], [], [], []⟩
theorem k_ref07_within : Known Tryd.prog f_ref07_within Tryd.f53 plan_ref07_within.plan (bodyOf Tryd.f53) := ⟨Tryd.func53, by kernel_rfl, by kernel_rfl, by kernel_rfl, by kernel_rfl, by kernel_rfl⟩
abbrev ref07_within_ps : List Pk := [Pk.int .i64, Pk.int .i64]
abbrev ref07_within_rs : List Pk := [Pk.bool]
def ref07_within_q (n0 : Int) (most1 : Int) (K : Bool → Prop) : Prop :=
 IfB (decide ((n0 : Int) ≥ 0))
 (K (decide ((n0 : Int) ≤ most1)))
 (K false)
noncomputable def tab_ref07_within : List (Nat × Ct) := []
theorem ref07_within_eq : (fun (x : PkTs ref07_within_ps) (K : PkTs ref07_within_rs → Prop) => ref07_within_q x.1 x.2.1 (fun r0 => K (r0, ()))) = fun x K => PCode Tryd.prog tab_ref07_within plan_ref07_within (bodyOf Tryd.f53) (parS ref07_within_ps x) (PRet Tryd.prog Tryd.f53.results.toList fun a st => outP ref07_within_rs st a K) := by kernel_rfl
theorem ref07_within_fq : FnQ Tryd.prog f_ref07_within ref07_within_ps ref07_within_rs (fun x K => ref07_within_q x.1 x.2.1 (fun r0 => K (r0, ()))) := (fnQ_of k_ref07_within (tab := tab_ref07_within) trivial rfl).of_eq ref07_within_eq
noncomputable def ct_ref07_within : Ct := ctRd ref07_within_ps ref07_within_rs (fun x K => ref07_within_q x.1 x.2.1 (fun r0 => K (r0, ())))
theorem ct_ref07_within_ok : SoundCt Tryd.prog f_ref07_within ct_ref07_within := ctRd_sound ref07_within_fq
def plan_ref07_right : PPlan := ⟨[], [], [], [], [], []⟩
theorem k_ref07_right : Known Tryd.prog f_ref07_right Tryd.f34 plan_ref07_right.plan (bodyOf Tryd.f34) := ⟨Tryd.func34, by kernel_rfl, by kernel_rfl, by kernel_rfl, by kernel_rfl, by kernel_rfl⟩
abbrev ref07_right_ps : List Pk := [Pk.agg [Kd.int .i64, Kd.int .i64, Kd.int .i64, Kd.int .i64, Kd.bool, Kd.bool, Kd.int .u32, Kd.int .u32, Kd.lst [Kd.int .u8]]]
abbrev ref07_right_rs : List Pk := [Pk.bool]
def ref07_right_q (p0 : Int × Int × Int × Int × Bool × Bool × UInt32 × UInt32 × List UInt8) (K : Bool → Prop) : Prop :=
 (WfPs ref07_within_ps (p0.2.1, (8191 : Int), ()) →
 ref07_within_q p0.2.1 (8191 : Int) (fun x5 =>
 WfPs ref07_within_rs (x5, ()) →
 IfB x5
 ((WfPs ref07_within_ps (p0.1, (65535 : Int), ()) →
 ref07_within_q p0.1 (65535 : Int) (fun x9 =>
 WfPs ref07_within_rs (x9, ()) →
 IfB x9
 ((WfPs ref07_within_ps (p0.2.2.1, (255 : Int), ()) →
 ref07_within_q p0.2.2.1 (255 : Int) (fun x14 =>
 WfPs ref07_within_rs (x14, ()) →
 IfB x14
 ((WfPs ref07_within_ps (p0.2.2.2.1, (255 : Int), ()) →
 ref07_within_q p0.2.2.2.1 (255 : Int) (fun x19 =>
 WfPs ref07_within_rs (x19, ()) →
 K x19)))
 (K false))))
 (K false))))
 (K false)))
noncomputable def tab_ref07_right : List (Nat × Ct) := [(f_ref07_within, ct_ref07_within)]
theorem ref07_right_eq : (fun (x : PkTs ref07_right_ps) (K : PkTs ref07_right_rs → Prop) => ref07_right_q x.1 (fun r0 => K (r0, ()))) = fun x K => PCode Tryd.prog tab_ref07_right plan_ref07_right (bodyOf Tryd.f34) (parS ref07_right_ps x) (PRet Tryd.prog Tryd.f34.results.toList fun a st => outP ref07_right_rs st a K) := by kernel_rfl
theorem ref07_right_fq : FnQ Tryd.prog f_ref07_right ref07_right_ps ref07_right_rs (fun x K => ref07_right_q x.1 (fun r0 => K (r0, ()))) := (fnQ_of k_ref07_right (tab := tab_ref07_right) ⟨ct_ref07_within_ok, trivial⟩ rfl).of_eq ref07_right_eq
noncomputable def ct_ref07_right : Ct := ctRd ref07_right_ps ref07_right_rs (fun x K => ref07_right_q x.1 (fun r0 => K (r0, ())))
theorem ct_ref07_right_ok : SoundCt Tryd.prog f_ref07_right ct_ref07_right := ctRd_sound ref07_right_fq
def pl_ref01_round_2 : PLoop := ⟨[(0, PK.int .u32), (3, PK.int .i64)], [], none⟩
def plan_ref01_round : PPlan := ⟨[], [(2, pl_ref01_round_2)], [], [], [], []⟩
theorem k_ref01_round : Known Tryd.prog f_ref01_round Tryd.f63 plan_ref01_round.plan (bodyOf Tryd.f63) := ⟨Tryd.func63, by kernel_rfl, by kernel_rfl, by kernel_rfl, by kernel_rfl, by kernel_rfl⟩
abbrev ref01_round_ps : List Pk := [Pk.int .u32]
abbrev ref01_round_rs : List Pk := [Pk.int .u32]
def ref01_round_l2 (n0_1 : Int) (k3 : Int) (next2 : (Int × Int × Unit) → Prop) (K : Int → Prop) : Prop :=
 IfB (decide ((k3 : Int) < 3))
 ((65536 : Int) ≠ 0 ∧
 (65536 : Int) ≠ 0 ∧
 next2 ((IntKind.wrap .u32 ((Int.tmod n0_1 65536) + (IntKind.wrap .u32 (Int.tdiv n0_1 65536)))), (IntKind.wrap .i64 (k3 + 1)), ()))
 (K n0_1)
def ref01_round_q (n0 : Int) (K : Int → Prop) : Prop :=
 LoopJ (Int × Int × Unit) (n0, (0 : Int), ()) fun y next =>
 WfY pl_ref01_round_2.kinds y →
 ref01_round_l2 y.1 y.2.1 next K
noncomputable def tab_ref01_round : List (Nat × Ct) := []
theorem ref01_round_eq : (fun (x : PkTs ref01_round_ps) (K : PkTs ref01_round_rs → Prop) => ref01_round_q x.1 (fun r0 => K (r0, ()))) = fun x K => PCode Tryd.prog tab_ref01_round plan_ref01_round (bodyOf Tryd.f63) (parS ref01_round_ps x) (PRet Tryd.prog Tryd.f63.results.toList fun a st => outP ref01_round_rs st a K) := by kernel_rfl
theorem ref01_round_fq : FnQ Tryd.prog f_ref01_round ref01_round_ps ref01_round_rs (fun x K => ref01_round_q x.1 (fun r0 => K (r0, ()))) := (fnQ_of k_ref01_round (tab := tab_ref01_round) trivial rfl).of_eq ref01_round_eq
noncomputable def ct_ref01_round : Ct := ctRd ref01_round_ps ref01_round_rs (fun x K => ref01_round_q x.1 (fun r0 => K (r0, ())))
theorem ct_ref01_round_ok : SoundCt Tryd.prog f_ref01_round ct_ref01_round := ctRd_sound ref01_round_fq
def plan_ref01_Fold : PPlan := ⟨[], [], [], [], [], []⟩
theorem k_ref01_Fold : Known Tryd.prog f_ref01_Fold Tryd.f54 plan_ref01_Fold.plan (bodyOf Tryd.f54) := ⟨Tryd.func54, by kernel_rfl, by kernel_rfl, by kernel_rfl, by kernel_rfl, by kernel_rfl⟩
abbrev ref01_Fold_ps : List Pk := [Pk.int .u32]
abbrev ref01_Fold_rs : List Pk := [Pk.int .u16]
def ref01_Fold_q (partial0 : Int) (K : Int → Prop) : Prop :=
 (WfPs ref01_round_ps (partial0, ()) →
 ref01_round_q partial0 (fun x4 =>
 WfPs ref01_round_rs (x4, ()) →
 K (IntKind.wrap .u16 (IntKind.wrap .u32 (65535 - x4)))))
noncomputable def tab_ref01_Fold : List (Nat × Ct) := [(f_ref01_round, ct_ref01_round)]
theorem ref01_Fold_eq : (fun (x : PkTs ref01_Fold_ps) (K : PkTs ref01_Fold_rs → Prop) => ref01_Fold_q x.1 (fun r0 => K (r0, ()))) = fun x K => PCode Tryd.prog tab_ref01_Fold plan_ref01_Fold (bodyOf Tryd.f54) (parS ref01_Fold_ps x) (PRet Tryd.prog Tryd.f54.results.toList fun a st => outP ref01_Fold_rs st a K) := by kernel_rfl
theorem ref01_Fold_fq : FnQ Tryd.prog f_ref01_Fold ref01_Fold_ps ref01_Fold_rs (fun x K => ref01_Fold_q x.1 (fun r0 => K (r0, ()))) := (fnQ_of k_ref01_Fold (tab := tab_ref01_Fold) ⟨ct_ref01_round_ok, trivial⟩ rfl).of_eq ref01_Fold_eq
noncomputable def ct_ref01_Fold : Ct := ctRd ref01_Fold_ps ref01_Fold_rs (fun x K => ref01_Fold_q x.1 (fun r0 => K (r0, ())))
theorem ct_ref01_Fold_ok : SoundCt Tryd.prog f_ref01_Fold ct_ref01_Fold := ctRd_sound ref01_Fold_fq
def pl_ref01_Add_3 : PLoop := ⟨[(5, PK.int .u32), (6, PK.int .i64)], [1], none⟩
def plan_ref01_Add : PPlan := ⟨[], [(3, pl_ref01_Add_3)], [], [], [], []⟩
theorem k_ref01_Add : Known Tryd.prog f_ref01_Add Tryd.f55 plan_ref01_Add.plan (bodyOf Tryd.f55) := ⟨Tryd.func55, by kernel_rfl, by kernel_rfl, by kernel_rfl, by kernel_rfl, by kernel_rfl⟩
abbrev ref01_Add_ps : List Pk := [Pk.int .u32, Pk.lst [Kd.int .u8]]
abbrev ref01_Add_rs : List Pk := [Pk.int .u32]
def ref01_Add_j0 (b1 : List UInt8) (n5 : Int) (i6 : Int) (next3 : (Int × Int × Unit) → Prop) (j3 : Int) (K : Int → Prop) : Prop :=
 (WfPs ref01_round_ps ((IntKind.wrap .u32 (n5 + j3)), ()) →
 ref01_round_q (IntKind.wrap .u32 (n5 + j3)) (fun x38 =>
 WfPs ref01_round_rs (x38, ()) →
 next3 (x38, (IntKind.wrap .i64 (i6 + 2)), ())))
def ref01_Add_l3 (b1 : List UInt8) (n5 : Int) (i6 : Int) (next3 : (Int × Int × Unit) → Prop) (K : Int → Prop) : Prop :=
 IfB (decide ((i6 : Int) < (b1.length : Int)))
 ((0 : Int) ≤ i6 ∧ AtN b1 i6.toNat fun x18 =>
 WfT ks_int_u8 x18 →
 IfB (decide (((IntKind.wrap .i64 (i6 + 1)) : Int) < (b1.length : Int)))
 ((0 : Int) ≤ (IntKind.wrap .i64 (i6 + 1)) ∧ AtN b1 (IntKind.wrap .i64 (i6 + 1)).toNat fun x31 =>
 WfT ks_int_u8 x31 →
 ref01_Add_j0 b1 n5 i6 next3 (IntKind.wrap .u32 ((IntKind.wrap .u32 (256 * (IntKind.wrap .u32 (x18.toNat : Int)))) + (IntKind.wrap .u32 (x31.toNat : Int)))) K)
 (ref01_Add_j0 b1 n5 i6 next3 (IntKind.wrap .u32 (256 * (IntKind.wrap .u32 (x18.toNat : Int)))) K))
 (K n5)
def ref01_Add_q (partial0 : Int) (b1 : List UInt8) (K : Int → Prop) : Prop :=
 (WfPs ref01_round_ps (partial0, ()) →
 ref01_round_q partial0 (fun x9 =>
 WfPs ref01_round_rs (x9, ()) →
 LoopJ (Int × Int × Unit) (x9, (0 : Int), ()) fun y next =>
 WfY pl_ref01_Add_3.kinds y →
 ref01_Add_l3 b1 y.1 y.2.1 next K))
noncomputable def tab_ref01_Add : List (Nat × Ct) := [(f_ref01_round, ct_ref01_round)]
theorem ref01_Add_eq : (fun (x : PkTs ref01_Add_ps) (K : PkTs ref01_Add_rs → Prop) => ref01_Add_q x.1 x.2.1 (fun r0 => K (r0, ()))) = fun x K => PCode Tryd.prog tab_ref01_Add plan_ref01_Add (bodyOf Tryd.f55) (parS ref01_Add_ps x) (PRet Tryd.prog Tryd.f55.results.toList fun a st => outP ref01_Add_rs st a K) := by kernel_rfl
theorem ref01_Add_fq : FnQ Tryd.prog f_ref01_Add ref01_Add_ps ref01_Add_rs (fun x K => ref01_Add_q x.1 x.2.1 (fun r0 => K (r0, ()))) := (fnQ_of k_ref01_Add (tab := tab_ref01_Add) ⟨ct_ref01_round_ok, trivial⟩ rfl).of_eq ref01_Add_eq
noncomputable def ct_ref01_Add : Ct := ctRd ref01_Add_ps ref01_Add_rs (fun x K => ref01_Add_q x.1 x.2.1 (fun r0 => K (r0, ())))
theorem ct_ref01_Add_ok : SoundCt Tryd.prog f_ref01_Add ct_ref01_Add := ctRd_sound ref01_Add_fq
def plan_ref01_Of : PPlan := ⟨[], [], [], [], [], []⟩
theorem k_ref01_Of : Known Tryd.prog f_ref01_Of Tryd.f37 plan_ref01_Of.plan (bodyOf Tryd.f37) := ⟨Tryd.func37, by kernel_rfl, by kernel_rfl, by kernel_rfl, by kernel_rfl, by kernel_rfl⟩
abbrev ref01_Of_ps : List Pk := [Pk.lst [Kd.int .u8]]
abbrev ref01_Of_rs : List Pk := [Pk.int .u16]
def ref01_Of_q (b0 : List UInt8) (K : Int → Prop) : Prop :=
 (WfPs ref01_Add_ps ((0 : Int), b0, ()) →
 ref01_Add_q (0 : Int) b0 (fun x4 =>
 WfPs ref01_Add_rs (x4, ()) →
 (WfPs ref01_Fold_ps (x4, ()) →
 ref01_Fold_q x4 (fun x5 =>
 WfPs ref01_Fold_rs (x5, ()) →
 K x5))))
noncomputable def tab_ref01_Of : List (Nat × Ct) := [(f_ref01_Fold, ct_ref01_Fold), (f_ref01_Add, ct_ref01_Add)]
theorem ref01_Of_eq : (fun (x : PkTs ref01_Of_ps) (K : PkTs ref01_Of_rs → Prop) => ref01_Of_q x.1 (fun r0 => K (r0, ()))) = fun x K => PCode Tryd.prog tab_ref01_Of plan_ref01_Of (bodyOf Tryd.f37) (parS ref01_Of_ps x) (PRet Tryd.prog Tryd.f37.results.toList fun a st => outP ref01_Of_rs st a K) := by kernel_rfl
theorem ref01_Of_fq : FnQ Tryd.prog f_ref01_Of ref01_Of_ps ref01_Of_rs (fun x K => ref01_Of_q x.1 (fun r0 => K (r0, ()))) := (fnQ_of k_ref01_Of (tab := tab_ref01_Of) ⟨ct_ref01_Fold_ok, ct_ref01_Add_ok, trivial⟩ rfl).of_eq ref01_Of_eq
noncomputable def ct_ref01_Of : Ct := ctRd ref01_Of_ps ref01_Of_rs (fun x K => ref01_Of_q x.1 (fun r0 => K (r0, ())))
theorem ct_ref01_Of_ok : SoundCt Tryd.prog f_ref01_Of ct_ref01_Of := ctRd_sound ref01_Of_fq
def plan_ref07_Build : PPlan := ⟨[(13, [0, 1, 2, 5, 6, 3, 4, 7, 8, 9], [54])], [], [], [], [], []⟩
theorem k_ref07_Build : Known Tryd.prog f_ref07_Build Tryd.f12 plan_ref07_Build.plan (bodyOf Tryd.f12) := ⟨Tryd.func12, by kernel_rfl, by kernel_rfl, by kernel_rfl, by kernel_rfl, by kernel_rfl⟩
abbrev ref07_Build_ps : List Pk := [Pk.agg [Kd.int .i64, Kd.int .i64, Kd.int .i64, Kd.int .i64, Kd.bool, Kd.bool, Kd.int .u32, Kd.int .u32, Kd.lst [Kd.int .u8]]]
abbrev ref07_Build_rs : List Pk := [Pk.own T_uint8 [Kd.int .u8], Pk.int .i64]
def ref07_Build_j1 (p0 : Int × Int × Int × Int × Bool × Bool × UInt32 × UInt32 × List UInt8) (j9_1 : Int) (K : List UInt8 → Int → Prop) : Prop :=
 (WfPs ref07_two_ps ((IntKind.wrap .i64 (20 + (p0.2.2.2.2.2.2.2.2.length : Int))), ()) →
 ref07_two_q (IntKind.wrap .i64 (20 + (p0.2.2.2.2.2.2.2.2.length : Int))) (fun x29 =>
 WfPs ref07_two_rs (x29, ()) →
 ([(ofI .u8 69), (ofI .u8 0)] : List UInt8).length + x29.length ≤ 140737488355232 ∧
 (WfPs ref07_two_ps (p0.1, ()) →
 ref07_two_q p0.1 (fun x34 =>
 WfPs ref07_two_rs (x34, ()) →
 (([(ofI .u8 69), (ofI .u8 0)] : List UInt8) ++ x29).length + x34.length ≤ 140737488355232 ∧
 (WfPs ref07_two_ps (j9_1, ()) →
 ref07_two_q j9_1 (fun x37 =>
 WfPs ref07_two_rs (x37, ()) →
 ((([(ofI .u8 69), (ofI .u8 0)] : List UInt8) ++ x29) ++ x34).length + x37.length ≤ 140737488355232 ∧
 (((([(ofI .u8 69), (ofI .u8 0)] : List UInt8) ++ x29) ++ x34) ++ x37).length + ([(ofI .u8 (IntKind.wrap .u8 p0.2.2.1)), (ofI .u8 (IntKind.wrap .u8 p0.2.2.2.1)), (ofI .u8 0), (ofI .u8 0)] : List UInt8).length ≤ 140737488355232 ∧
 (WfPs ref07_four_ps ((p0.2.2.2.2.2.2.1.toNat : Int), ()) →
 ref07_four_q (p0.2.2.2.2.2.2.1.toNat : Int) (fun x51 =>
 WfPs ref07_four_rs (x51, ()) →
 ((((([(ofI .u8 69), (ofI .u8 0)] : List UInt8) ++ x29) ++ x34) ++ x37) ++ ([(ofI .u8 (IntKind.wrap .u8 p0.2.2.1)), (ofI .u8 (IntKind.wrap .u8 p0.2.2.2.1)), (ofI .u8 0), (ofI .u8 0)] : List UInt8)).length + x51.length ≤ 140737488355232 ∧
 (WfPs ref07_four_ps ((p0.2.2.2.2.2.2.2.1.toNat : Int), ()) →
 ref07_four_q (p0.2.2.2.2.2.2.2.1.toNat : Int) (fun x55 =>
 WfPs ref07_four_rs (x55, ()) →
 (((((([(ofI .u8 69), (ofI .u8 0)] : List UInt8) ++ x29) ++ x34) ++ x37) ++ ([(ofI .u8 (IntKind.wrap .u8 p0.2.2.1)), (ofI .u8 (IntKind.wrap .u8 p0.2.2.2.1)), (ofI .u8 0), (ofI .u8 0)] : List UInt8)) ++ x51).length + x55.length ≤ 140737488355232 ∧
 (WfPs ref01_Of_ps (((((((([(ofI .u8 69), (ofI .u8 0)] : List UInt8) ++ x29) ++ x34) ++ x37) ++ ([(ofI .u8 (IntKind.wrap .u8 p0.2.2.1)), (ofI .u8 (IntKind.wrap .u8 p0.2.2.2.1)), (ofI .u8 0), (ofI .u8 0)] : List UInt8)) ++ x51) ++ x55), ()) →
 ref01_Of_q ((((((([(ofI .u8 69), (ofI .u8 0)] : List UInt8) ++ x29) ++ x34) ++ x37) ++ ([(ofI .u8 (IntKind.wrap .u8 p0.2.2.1)), (ofI .u8 (IntKind.wrap .u8 p0.2.2.2.1)), (ofI .u8 0), (ofI .u8 0)] : List UInt8)) ++ x51) ++ x55) (fun x58 =>
 WfPs ref01_Of_rs (x58, ()) →
 (WfPs ref07_two_ps ((IntKind.wrap .i64 x58), ()) →
 ref07_two_q (IntKind.wrap .i64 x58) (fun x60 =>
 WfPs ref07_two_rs (x60, ()) →
 (0 : Int) ≤ 0 ∧ 0 < (x60.length : Int) ∧
 AtN x60 0 fun x65 =>
 WfT ks_int_u8 x65 →
 (0 : Int) ≤ 1 ∧ 1 < (x60.length : Int) ∧
 AtN x60 1 fun x68 =>
 WfT ks_int_u8 x68 →
 (0 : Int) ≤ 10 ∧ 10 < (((((((([(ofI .u8 69), (ofI .u8 0)] : List UInt8) ++ x29) ++ x34) ++ x37) ++ ([(ofI .u8 (IntKind.wrap .u8 p0.2.2.1)), (ofI .u8 (IntKind.wrap .u8 p0.2.2.2.1)), (ofI .u8 0), (ofI .u8 0)] : List UInt8)) ++ x51) ++ x55).length : Int) ∧
 AtN ((((((([(ofI .u8 69), (ofI .u8 0)] : List UInt8) ++ x29) ++ x34) ++ x37) ++ ([(ofI .u8 (IntKind.wrap .u8 p0.2.2.1)), (ofI .u8 (IntKind.wrap .u8 p0.2.2.2.1)), (ofI .u8 0), (ofI .u8 0)] : List UInt8)) ++ x51) ++ x55) 10 fun el =>
 WfT ks_int_u8 el →
 (0 : Int) ≤ 11 ∧ 11 < ((((((((([(ofI .u8 69), (ofI .u8 0)] : List UInt8) ++ x29) ++ x34) ++ x37) ++ ([(ofI .u8 (IntKind.wrap .u8 p0.2.2.1)), (ofI .u8 (IntKind.wrap .u8 p0.2.2.2.1)), (ofI .u8 0), (ofI .u8 0)] : List UInt8)) ++ x51) ++ x55).set 10 (ofI .u8 (x65.toNat : Int))).length : Int) ∧
 AtN (((((((([(ofI .u8 69), (ofI .u8 0)] : List UInt8) ++ x29) ++ x34) ++ x37) ++ ([(ofI .u8 (IntKind.wrap .u8 p0.2.2.1)), (ofI .u8 (IntKind.wrap .u8 p0.2.2.2.1)), (ofI .u8 0), (ofI .u8 0)] : List UInt8)) ++ x51) ++ x55).set 10 (ofI .u8 (x65.toNat : Int))) 11 fun el_1 =>
 WfT ks_int_u8 el_1 →
 ((((((((([(ofI .u8 69), (ofI .u8 0)] : List UInt8) ++ x29) ++ x34) ++ x37) ++ ([(ofI .u8 (IntKind.wrap .u8 p0.2.2.1)), (ofI .u8 (IntKind.wrap .u8 p0.2.2.2.1)), (ofI .u8 0), (ofI .u8 0)] : List UInt8)) ++ x51) ++ x55).set 10 (ofI .u8 (x65.toNat : Int))).set 11 (ofI .u8 (x68.toNat : Int))).length + p0.2.2.2.2.2.2.2.2.length ≤ 140737488355232 ∧
 K (((((((((([(ofI .u8 69), (ofI .u8 0)] : List UInt8) ++ x29) ++ x34) ++ x37) ++ ([(ofI .u8 (IntKind.wrap .u8 p0.2.2.1)), (ofI .u8 (IntKind.wrap .u8 p0.2.2.2.1)), (ofI .u8 0), (ofI .u8 0)] : List UInt8)) ++ x51) ++ x55).set 10 (ofI .u8 (x65.toNat : Int))).set 11 (ofI .u8 (x68.toNat : Int))) ++ p0.2.2.2.2.2.2.2.2) 0))))))))))))))
def ref07_Build_j0 (p0 : Int × Int × Int × Int × Bool × Bool × UInt32 × UInt32 × List UInt8) (j9 : Int) (K : List UInt8 → Int → Prop) : Prop :=
 IfB p0.2.2.2.2.2.1
 (ref07_Build_j1 p0 (IntKind.wrap .i64 (j9 + 8192)) K)
 (ref07_Build_j1 p0 j9 K)
def ref07_Build_q (p0 : Int × Int × Int × Int × Bool × Bool × UInt32 × UInt32 × List UInt8) (K : List UInt8 → Int → Prop) : Prop :=
 (WfPs ref07_right_ps (((p0.1, p0.2.1, p0.2.2.1, p0.2.2.2.1, p0.2.2.2.2.1, p0.2.2.2.2.2.1, (ofI .u32 (p0.2.2.2.2.2.2.1.toNat : Int)), (ofI .u32 (p0.2.2.2.2.2.2.2.1.toNat : Int)), p0.2.2.2.2.2.2.2.2) : Int × Int × Int × Int × Bool × Bool × UInt32 × UInt32 × List UInt8), ()) →
 ref07_right_q ((p0.1, p0.2.1, p0.2.2.1, p0.2.2.2.1, p0.2.2.2.2.1, p0.2.2.2.2.2.1, (ofI .u32 (p0.2.2.2.2.2.2.1.toNat : Int)), (ofI .u32 (p0.2.2.2.2.2.2.2.1.toNat : Int)), p0.2.2.2.2.2.2.2.2) : Int × Int × Int × Int × Bool × Bool × UInt32 × UInt32 × List UInt8) (fun x8 =>
 WfPs ref07_right_rs (x8, ()) →
 IfB (!x8)
 (K ([] : List UInt8) 2)
 (IfB (decide (((p0.2.2.2.2.2.2.2.2.length : Int) : Int) > 65515))
 (K ([] : List UInt8) 3)
 (IfB p0.2.2.2.2.1
 (ref07_Build_j0 p0 (IntKind.wrap .i64 (p0.2.1 + 16384)) K)
 (ref07_Build_j0 p0 p0.2.1 K)))))
noncomputable def tab_ref07_Build : List (Nat × Ct) := [(f_ref07_right, ct_ref07_right), (f_ref07_two, ct_ref07_two), (f_ref07_four, ct_ref07_four), (f_ref01_Of, ct_ref01_Of)]
theorem ref07_Build_eq : (fun (x : PkTs ref07_Build_ps) (K : PkTs ref07_Build_rs → Prop) => ref07_Build_q x.1 (fun r0 r1 => K (r0, r1, ()))) = fun x K => PCode Tryd.prog tab_ref07_Build plan_ref07_Build (bodyOf Tryd.f12) (parS ref07_Build_ps x) (PRet Tryd.prog Tryd.f12.results.toList fun a st => outP ref07_Build_rs st a K) := by kernel_rfl
theorem ref07_Build_fq : FnQ Tryd.prog f_ref07_Build ref07_Build_ps ref07_Build_rs (fun x K => ref07_Build_q x.1 (fun r0 r1 => K (r0, r1, ()))) := (fnQ_of k_ref07_Build (tab := tab_ref07_Build) ⟨ct_ref07_right_ok, ct_ref07_two_ok, ct_ref07_four_ok, ct_ref01_Of_ok, trivial⟩ rfl).of_eq ref07_Build_eq
noncomputable def ct_ref07_Build : Ct := ctVal ref07_Build_ps ref07_Build_rs (fun x K => ref07_Build_q x.1 (fun r0 r1 => K (r0, r1, ())))
theorem ct_ref07_Build_ok : SoundCt Tryd.prog f_ref07_Build ct_ref07_Build := ctVal_sound ref07_Build_fq
def plan_law07_plain : PPlan := ⟨[], [], [], [], [], []⟩
theorem k_law07_plain : Known Tryd.prog f_law07_plain Tryd.f13 plan_law07_plain.plan (bodyOf Tryd.f13) := ⟨Tryd.func13, by kernel_rfl, by kernel_rfl, by kernel_rfl, by kernel_rfl, by kernel_rfl⟩
abbrev law07_plain_ps : List Pk := [Pk.agg [Kd.int .i64, Kd.int .i64, Kd.int .i64, Kd.int .i64, Kd.bool, Kd.bool, Kd.int .u32, Kd.int .u32, Kd.lst [Kd.int .u8]]]
abbrev law07_plain_rs : List Pk := [Pk.agg [Kd.int .i64, Kd.int .i64, Kd.int .i64, Kd.int .i64, Kd.bool, Kd.bool, Kd.int .u32, Kd.int .u32, Kd.lst [Kd.int .u8]]]
def law07_plain_q (p0 : Int × Int × Int × Int × Bool × Bool × UInt32 × UInt32 × List UInt8) (K : (Int × Int × Int × Int × Bool × Bool × UInt32 × UInt32 × List UInt8) → Prop) : Prop :=
 K (p0.1, p0.2.1, p0.2.2.1, p0.2.2.2.1, p0.2.2.2.2.1, p0.2.2.2.2.2.1, (ofI .u32 (p0.2.2.2.2.2.2.1.toNat : Int)), (ofI .u32 (p0.2.2.2.2.2.2.2.1.toNat : Int)), p0.2.2.2.2.2.2.2.2)
noncomputable def tab_law07_plain : List (Nat × Ct) := []
theorem law07_plain_eq : (fun (x : PkTs law07_plain_ps) (K : PkTs law07_plain_rs → Prop) => law07_plain_q x.1 (fun r0 => K (r0, ()))) = fun x K => PCode Tryd.prog tab_law07_plain plan_law07_plain (bodyOf Tryd.f13) (parS law07_plain_ps x) (PRet Tryd.prog Tryd.f13.results.toList fun a st => outP law07_plain_rs st a K) := by kernel_rfl
theorem law07_plain_fq : FnQ Tryd.prog f_law07_plain law07_plain_ps law07_plain_rs (fun x K => law07_plain_q x.1 (fun r0 => K (r0, ()))) := (fnQ_of k_law07_plain (tab := tab_law07_plain) trivial rfl).of_eq law07_plain_eq
noncomputable def ct_law07_plain : Ct := ctVal law07_plain_ps law07_plain_rs (fun x K => law07_plain_q x.1 (fun r0 => K (r0, ())))
theorem ct_law07_plain_ok : SoundCt Tryd.prog f_law07_plain ct_law07_plain := ctVal_sound law07_plain_fq
def plan_law07_IpBuilds : PPlan := ⟨[], [], [], [], [], []⟩
theorem k_law07_IpBuilds : Known Tryd.prog f_law07_IpBuilds Tryd.f3 plan_law07_IpBuilds.plan (bodyOf Tryd.f3) := ⟨Tryd.func3, by kernel_rfl, by kernel_rfl, by kernel_rfl, by kernel_rfl, by kernel_rfl⟩
abbrev law07_IpBuilds_ps : List Pk := [Pk.agg [Kd.int .i64, Kd.int .i64, Kd.int .i64, Kd.int .i64, Kd.bool, Kd.bool, Kd.int .u32, Kd.int .u32, Kd.lst [Kd.int .u8]]]
abbrev law07_IpBuilds_rs : List Pk := [Pk.bool]
def law07_IpBuilds_q (p0 : Int × Int × Int × Int × Bool × Bool × UInt32 × UInt32 × List UInt8) (K : Bool → Prop) : Prop :=
 (WfPs law07_few_ps (((p0.1, p0.2.1, p0.2.2.1, p0.2.2.2.1, p0.2.2.2.2.1, p0.2.2.2.2.2.1, (ofI .u32 (p0.2.2.2.2.2.2.1.toNat : Int)), (ofI .u32 (p0.2.2.2.2.2.2.2.1.toNat : Int)), p0.2.2.2.2.2.2.2.2) : Int × Int × Int × Int × Bool × Bool × UInt32 × UInt32 × List UInt8), (2000 : Int), ()) →
 law07_few_q ((p0.1, p0.2.1, p0.2.2.1, p0.2.2.2.1, p0.2.2.2.2.1, p0.2.2.2.2.2.1, (ofI .u32 (p0.2.2.2.2.2.2.1.toNat : Int)), (ofI .u32 (p0.2.2.2.2.2.2.2.1.toNat : Int)), p0.2.2.2.2.2.2.2.2) : Int × Int × Int × Int × Bool × Bool × UInt32 × UInt32 × List UInt8) (2000 : Int) (fun x8 =>
 WfPs law07_few_rs (x8, ()) →
 (WfPs law07_few_ps (((x8.1, x8.2.1, x8.2.2.1, x8.2.2.2.1, x8.2.2.2.2.1, x8.2.2.2.2.2.1, (ofI .u32 (x8.2.2.2.2.2.2.1.toNat : Int)), (ofI .u32 (x8.2.2.2.2.2.2.2.1.toNat : Int)), x8.2.2.2.2.2.2.2.2) : Int × Int × Int × Int × Bool × Bool × UInt32 × UInt32 × List UInt8), (2000 : Int), ()) →
 law07_few_q ((x8.1, x8.2.1, x8.2.2.1, x8.2.2.2.1, x8.2.2.2.2.1, x8.2.2.2.2.2.1, (ofI .u32 (x8.2.2.2.2.2.2.1.toNat : Int)), (ofI .u32 (x8.2.2.2.2.2.2.2.1.toNat : Int)), x8.2.2.2.2.2.2.2.2) : Int × Int × Int × Int × Bool × Bool × UInt32 × UInt32 × List UInt8) (2000 : Int) (fun x11 =>
 WfPs law07_few_rs (x11, ()) →
 (WfPs ip_Build_ps (((x11.1, x11.2.1, x11.2.2.1, x11.2.2.2.1, x11.2.2.2.2.1, x11.2.2.2.2.2.1, (ofI .u32 (x11.2.2.2.2.2.2.1.toNat : Int)), (ofI .u32 (x11.2.2.2.2.2.2.2.1.toNat : Int)), x11.2.2.2.2.2.2.2.2) : Int × Int × Int × Int × Bool × Bool × UInt32 × UInt32 × List UInt8), ()) →
 ip_Build_q ((x11.1, x11.2.1, x11.2.2.1, x11.2.2.2.1, x11.2.2.2.2.1, x11.2.2.2.2.2.1, (ofI .u32 (x11.2.2.2.2.2.2.1.toNat : Int)), (ofI .u32 (x11.2.2.2.2.2.2.2.1.toNat : Int)), x11.2.2.2.2.2.2.2.2) : Int × Int × Int × Int × Bool × Bool × UInt32 × UInt32 × List UInt8) (fun x12r0 x12r1 =>
 WfPs ip_Build_rs (x12r0, x12r1, ()) →
 (WfPs law07_plain_ps (((x8.1, x8.2.1, x8.2.2.1, x8.2.2.2.1, x8.2.2.2.2.1, x8.2.2.2.2.2.1, (ofI .u32 (x8.2.2.2.2.2.2.1.toNat : Int)), (ofI .u32 (x8.2.2.2.2.2.2.2.1.toNat : Int)), x8.2.2.2.2.2.2.2.2) : Int × Int × Int × Int × Bool × Bool × UInt32 × UInt32 × List UInt8), ()) →
 law07_plain_q ((x8.1, x8.2.1, x8.2.2.1, x8.2.2.2.1, x8.2.2.2.2.1, x8.2.2.2.2.2.1, (ofI .u32 (x8.2.2.2.2.2.2.1.toNat : Int)), (ofI .u32 (x8.2.2.2.2.2.2.2.1.toNat : Int)), x8.2.2.2.2.2.2.2.2) : Int × Int × Int × Int × Bool × Bool × UInt32 × UInt32 × List UInt8) (fun x17 =>
 WfPs law07_plain_rs (x17, ()) →
 (WfPs ref07_Build_ps (((x17.1, x17.2.1, x17.2.2.1, x17.2.2.2.1, x17.2.2.2.2.1, x17.2.2.2.2.2.1, (ofI .u32 (x17.2.2.2.2.2.2.1.toNat : Int)), (ofI .u32 (x17.2.2.2.2.2.2.2.1.toNat : Int)), x17.2.2.2.2.2.2.2.2) : Int × Int × Int × Int × Bool × Bool × UInt32 × UInt32 × List UInt8), ()) →
 ref07_Build_q ((x17.1, x17.2.1, x17.2.2.1, x17.2.2.2.1, x17.2.2.2.2.1, x17.2.2.2.2.2.1, (ofI .u32 (x17.2.2.2.2.2.2.1.toNat : Int)), (ofI .u32 (x17.2.2.2.2.2.2.2.1.toNat : Int)), x17.2.2.2.2.2.2.2.2) : Int × Int × Int × Int × Bool × Bool × UInt32 × UInt32 × List UInt8) (fun x18r0 x18r1 =>
 WfPs ref07_Build_rs (x18r0, x18r1, ()) →
 (WfPs base_SameBytes_ps (x12r0, x18r0, ()) →
 base_SameBytes_q x12r0 x18r0 (fun x23 =>
 WfPs base_SameBytes_rs (x23, ()) →
 IfB x23
 (IfB ((x12r1 : Int) == x18r1)
 ((WfPs law07_works_ps (()) →
 law07_works_q  (fun x30 =>
 WfPs law07_works_rs (x30, ()) →
 K x30)))
 (K false))
 (K false)))))))))))))
noncomputable def tab_law07_IpBuilds : List (Nat × Ct) := [(f_law07_few, ct_law07_few), (f_ip_Build, ct_ip_Build), (f_ref07_Build, ct_ref07_Build), (f_law07_plain, ct_law07_plain), (f_base_SameBytes, ct_base_SameBytes), (f_law07_works, ct_law07_works)]
theorem law07_IpBuilds_eq : (fun (x : PkTs law07_IpBuilds_ps) (K : PkTs law07_IpBuilds_rs → Prop) => law07_IpBuilds_q x.1 (fun r0 => K (r0, ()))) = fun x K => PCode Tryd.prog tab_law07_IpBuilds plan_law07_IpBuilds (bodyOf Tryd.f3) (parS law07_IpBuilds_ps x) (PRet Tryd.prog Tryd.f3.results.toList fun a st => outP law07_IpBuilds_rs st a K) := by kernel_rfl
theorem law07_IpBuilds_fq : FnQ Tryd.prog f_law07_IpBuilds law07_IpBuilds_ps law07_IpBuilds_rs (fun x K => law07_IpBuilds_q x.1 (fun r0 => K (r0, ()))) := (fnQ_of k_law07_IpBuilds (tab := tab_law07_IpBuilds) ⟨ct_law07_few_ok, ct_ip_Build_ok, ct_ref07_Build_ok, ct_law07_plain_ok, ct_base_SameBytes_ok, ct_law07_works_ok, trivial⟩ rfl).of_eq law07_IpBuilds_eq
noncomputable def ct_law07_IpBuilds : Ct := ctRd law07_IpBuilds_ps law07_IpBuilds_rs (fun x K => law07_IpBuilds_q x.1 (fun r0 => K (r0, ())))
theorem ct_law07_IpBuilds_ok : SoundCt Tryd.prog f_law07_IpBuilds ct_law07_IpBuilds := ctRd_sound law07_IpBuilds_fq
def plan_ref07_num : PPlan := ⟨[], [], [], [], [], []⟩
theorem k_ref07_num : Known Tryd.prog f_ref07_num Tryd.f41 plan_ref07_num.plan (bodyOf Tryd.f41) := ⟨Tryd.func41, by kernel_rfl, by kernel_rfl, by kernel_rfl, by kernel_rfl, by kernel_rfl⟩
abbrev ref07_num_ps : List Pk := [Pk.lst [Kd.int .u8]]
abbrev ref07_num_rs : List Pk := [Pk.int .i64]
def ref07_num_q (b0 : List UInt8) (K : Int → Prop) : Prop :=
 (0 : Int) ≤ 0 ∧ AtN b0 0 fun x4 =>
 WfT ks_int_u8 x4 →
 (0 : Int) ≤ 1 ∧ AtN b0 1 fun x9 =>
 WfT ks_int_u8 x9 →
 K (IntKind.wrap .i64 ((IntKind.wrap .i64 (256 * (IntKind.wrap .i64 (x4.toNat : Int)))) + (IntKind.wrap .i64 (x9.toNat : Int))))
noncomputable def tab_ref07_num : List (Nat × Ct) := []
theorem ref07_num_eq : (fun (x : PkTs ref07_num_ps) (K : PkTs ref07_num_rs → Prop) => ref07_num_q x.1 (fun r0 => K (r0, ()))) = fun x K => PCode Tryd.prog tab_ref07_num plan_ref07_num (bodyOf Tryd.f41) (parS ref07_num_ps x) (PRet Tryd.prog Tryd.f41.results.toList fun a st => outP ref07_num_rs st a K) := by kernel_rfl
theorem ref07_num_fq : FnQ Tryd.prog f_ref07_num ref07_num_ps ref07_num_rs (fun x K => ref07_num_q x.1 (fun r0 => K (r0, ()))) := (fnQ_of k_ref07_num (tab := tab_ref07_num) trivial rfl).of_eq ref07_num_eq
noncomputable def ct_ref07_num : Ct := ctRd ref07_num_ps ref07_num_rs (fun x K => ref07_num_q x.1 (fun r0 => K (r0, ())))
theorem ct_ref07_num_ok : SoundCt Tryd.prog f_ref07_num ct_ref07_num := ctRd_sound ref07_num_fq
def plan_ref01_Right : PPlan := ⟨[], [], [], [], [], []⟩
theorem k_ref01_Right : Known Tryd.prog f_ref01_Right Tryd.f42 plan_ref01_Right.plan (bodyOf Tryd.f42) := ⟨Tryd.func42, by kernel_rfl, by kernel_rfl, by kernel_rfl, by kernel_rfl, by kernel_rfl⟩
abbrev ref01_Right_ps : List Pk := [Pk.lst [Kd.int .u8]]
abbrev ref01_Right_rs : List Pk := [Pk.bool]
def ref01_Right_q (b0 : List UInt8) (K : Bool → Prop) : Prop :=
 (WfPs ref01_Add_ps ((0 : Int), b0, ()) →
 ref01_Add_q (0 : Int) b0 (fun x4 =>
 WfPs ref01_Add_rs (x4, ()) →
 K ((x4 : Int) == 65535)))
noncomputable def tab_ref01_Right : List (Nat × Ct) := [(f_ref01_Add, ct_ref01_Add)]
theorem ref01_Right_eq : (fun (x : PkTs ref01_Right_ps) (K : PkTs ref01_Right_rs → Prop) => ref01_Right_q x.1 (fun r0 => K (r0, ()))) = fun x K => PCode Tryd.prog tab_ref01_Right plan_ref01_Right (bodyOf Tryd.f42) (parS ref01_Right_ps x) (PRet Tryd.prog Tryd.f42.results.toList fun a st => outP ref01_Right_rs st a K) := by kernel_rfl
theorem ref01_Right_fq : FnQ Tryd.prog f_ref01_Right ref01_Right_ps ref01_Right_rs (fun x K => ref01_Right_q x.1 (fun r0 => K (r0, ()))) := (fnQ_of k_ref01_Right (tab := tab_ref01_Right) ⟨ct_ref01_Add_ok, trivial⟩ rfl).of_eq ref01_Right_eq
noncomputable def ct_ref01_Right : Ct := ctRd ref01_Right_ps ref01_Right_rs (fun x K => ref01_Right_q x.1 (fun r0 => K (r0, ())))
theorem ct_ref01_Right_ok : SoundCt Tryd.prog f_ref01_Right ct_ref01_Right := ctRd_sound ref01_Right_fq
def plan_ref07_Read : PPlan := ⟨[(3, [0, 1, 2, 3, 4, 5, 6, 7, 8, 9, 10], [21]), (9, [0, 1, 3, 4, 5, 6, 7, 8, 9, 10, 11, 12, 13, 14, 15, 16, 17, 18, 19, 20, 22, 2, 21, 23], [78, 82]), (10, [0, 1, 4, 5, 2, 3, 6, 7, 8, 9, 10], []), (11, [0, 1, 4, 5, 2, 3, 6, 7, 8, 9, 10], [])], [], [], [], [], [(9, ⟨22, [13, 14, 15, 17, 18, 19], [0, 1, 3, 4, 5, 6, 7, 8, 9, 10, 11, 12, 16, 20, 2, 21], [], [23], [2]⟩)]⟩
theorem k_ref07_Read : Known Tryd.prog f_ref07_Read Tryd.f18 plan_ref07_Read.plan (bodyOf Tryd.f18) := ⟨Tryd.func18, by kernel_rfl, by kernel_rfl, by kernel_rfl, by kernel_rfl, by kernel_rfl⟩
abbrev ref07_Read_ps : List Pk := [Pk.lst [Kd.int .u8]]
abbrev ref07_Read_rs : List Pk := [Pk.agg [Kd.int .i64, Kd.int .i64, Kd.int .i64, Kd.int .i64, Kd.bool, Kd.bool, Kd.int .u32, Kd.int .u32, Kd.lst [Kd.int .u8]], Pk.int .i64]
def ref07_Read_j2 (b0 : List UInt8) (x20 : UInt8) (x27 : Int) (x62 : Int) (x77 : UInt8) (x81 : UInt8) (j12_1 : Int) (K : (Int × Int × Int × Int × Bool × Bool × UInt32 × UInt32 × List UInt8) → Int → Prop) : Prop :=
 (0 : Int) ≤ 14 ∧ 14 ≤ (b0.length : Int) ∧
 (0 : Int) ≤ 12 ∧ 12 ≤ (14 : Int) ∧
 (0 : Int) ≤ 16 ∧ 16 ≤ (b0.length : Int) ∧
 (0 : Int) ≤ 14 ∧ 14 ≤ (16 : Int) ∧
 (WfPs ref07_num_ps (((b0.take 14).drop 12), ()) →
 ref07_num_q ((b0.take 14).drop 12) (fun x87 =>
 WfPs ref07_num_rs (x87, ()) →
 (WfPs ref07_num_ps (((b0.take 16).drop 14), ()) →
 ref07_num_q ((b0.take 16).drop 14) (fun x91 =>
 WfPs ref07_num_rs (x91, ()) →
 (0 : Int) ≤ 18 ∧ 18 ≤ (b0.length : Int) ∧
 (0 : Int) ≤ 16 ∧ 16 ≤ (18 : Int) ∧
 (0 : Int) ≤ 20 ∧ 20 ≤ (b0.length : Int) ∧
 (0 : Int) ≤ 18 ∧ 18 ≤ (20 : Int) ∧
 (WfPs ref07_num_ps (((b0.take 18).drop 16), ()) →
 ref07_num_q ((b0.take 18).drop 16) (fun x97 =>
 WfPs ref07_num_rs (x97, ()) →
 (WfPs ref07_num_ps (((b0.take 20).drop 18), ()) →
 ref07_num_q ((b0.take 20).drop 18) (fun x101 =>
 WfPs ref07_num_rs (x101, ()) →
 (0 : Int) ≤ x27 ∧ x27 ≤ (b0.length : Int) ∧
 (0 : Int) ≤ (IntKind.wrap .i64 (4 * (IntKind.wrap .i64 (Int.tmod (x20.toNat : Int) 16)))) ∧ (IntKind.wrap .i64 (4 * (IntKind.wrap .i64 (Int.tmod (x20.toNat : Int) 16)))) ≤ (x27.toNat : Int) ∧
 ([] : List UInt8).length + ((b0.take x27.toNat).drop ((IntKind.wrap .i64 (4 * (IntKind.wrap .i64 (Int.tmod (x20.toNat : Int) 16)))).toNat)).length ≤ 140737488355232 ∧
 K (j12_1, (Int.tmod x62 8192), (IntKind.wrap .i64 (x77.toNat : Int)), (IntKind.wrap .i64 (x81.toNat : Int)), (((Int.tmod (IntKind.wrap .i64 (Int.tdiv x62 16384)) 2) : Int) == 1), (((Int.tmod (IntKind.wrap .i64 (Int.tdiv x62 8192)) 2) : Int) == 1), (ofI .u32 (IntKind.wrap .u32 (IntKind.wrap .i64 ((IntKind.wrap .i64 (65536 * x87)) + x91)))), (ofI .u32 (IntKind.wrap .u32 (IntKind.wrap .i64 ((IntKind.wrap .i64 (65536 * x97)) + x101)))), (([] : List UInt8) ++ ((b0.take x27.toNat).drop ((IntKind.wrap .i64 (4 * (IntKind.wrap .i64 (Int.tmod (x20.toNat : Int) 16)))).toNat)))) 0))))))))
def ref07_Read_j1 (b0 : List UInt8) (x20 : UInt8) (x27 : Int) (j12 : Bool) (K : (Int × Int × Int × Int × Bool × Bool × UInt32 × UInt32 × List UInt8) → Int → Prop) : Prop :=
 IfB j12
 (K (0, 0, 0, 0, false, false, (ofI .u32 0), (ofI .u32 0), ([] : List UInt8)) 70)
 ((0 : Int) ≤ (IntKind.wrap .i64 (4 * (IntKind.wrap .i64 (Int.tmod (x20.toNat : Int) 16)))) ∧ (IntKind.wrap .i64 (4 * (IntKind.wrap .i64 (Int.tmod (x20.toNat : Int) 16)))) ≤ (b0.length : Int) ∧
 (WfPs ref01_Right_ps ((b0.take ((IntKind.wrap .i64 (4 * (IntKind.wrap .i64 (Int.tmod (x20.toNat : Int) 16)))).toNat)), ()) →
 ref01_Right_q (b0.take ((IntKind.wrap .i64 (4 * (IntKind.wrap .i64 (Int.tmod (x20.toNat : Int) 16)))).toNat)) (fun x57 =>
 WfPs ref01_Right_rs (x57, ()) →
 IfB (!x57)
 (K (0, 0, 0, 0, false, false, (ofI .u32 0), (ofI .u32 0), ([] : List UInt8)) 71)
 ((0 : Int) ≤ 8 ∧ 8 ≤ (b0.length : Int) ∧
 (0 : Int) ≤ 6 ∧ 6 ≤ (8 : Int) ∧
 (WfPs ref07_num_ps (((b0.take 8).drop 6), ()) →
 ref07_num_q ((b0.take 8).drop 6) (fun x62 =>
 WfPs ref07_num_rs (x62, ()) →
 (0 : Int) ≤ 8 ∧ AtN b0 8 fun x77 =>
 WfT ks_int_u8 x77 →
 (0 : Int) ≤ 9 ∧ AtN b0 9 fun x81 =>
 WfT ks_int_u8 x81 →
 (0 : Int) ≤ 6 ∧ 6 ≤ (b0.length : Int) ∧
 (0 : Int) ≤ 4 ∧ 4 ≤ (6 : Int) ∧
 (8192 : Int) ≠ 0 ∧
 (16384 : Int) ≠ 0 ∧
 (2 : Int) ≠ 0 ∧
 (8192 : Int) ≠ 0 ∧
 (2 : Int) ≠ 0 ∧
 ((WfPs ref07_num_ps (((b0.take 6).drop 4), ()) →
 ref07_num_q ((b0.take 6).drop 4) (fun x65 =>
 WfPs ref07_num_rs (x65, ()) →
 ref07_Read_j2 b0 x20 x27 x62 x77 x81 x65 K))) ∧
 ((WfPs ref07_num_ps (((b0.take 6).drop 4), ()) →
 ref07_num_q ((b0.take 6).drop 4) (fun x65_1 =>
 WfPs ref07_num_rs (x65_1, ()) →
 ref07_Read_j2 b0 x20 x27 x62 x77 x81 x65_1 K)))))))))
def ref07_Read_j0 (b0 : List UInt8) (j10 : Bool) (K : (Int × Int × Int × Int × Bool × Bool × UInt32 × UInt32 × List UInt8) → Int → Prop) : Prop :=
 IfB j10
 (K (0, 0, 0, 0, false, false, (ofI .u32 0), (ofI .u32 0), ([] : List UInt8)) 70)
 ((0 : Int) ≤ 0 ∧ AtN b0 0 fun x20 =>
 WfT ks_int_u8 x20 →
 (16 : Int) ≠ 0 ∧
 (0 : Int) ≤ 4 ∧ 4 ≤ (b0.length : Int) ∧
 (0 : Int) ≤ 2 ∧ 2 ≤ (4 : Int) ∧
 (WfPs ref07_num_ps (((b0.take 4).drop 2), ()) →
 ref07_num_q ((b0.take 4).drop 2) (fun x27 =>
 WfPs ref07_num_rs (x27, ()) →
 IfB (decide (((IntKind.wrap .i64 (4 * (IntKind.wrap .i64 (Int.tmod (x20.toNat : Int) 16)))) : Int) < 20))
 (ref07_Read_j1 b0 x20 x27 true K)
 (IfB (decide (((IntKind.wrap .i64 (4 * (IntKind.wrap .i64 (Int.tmod (x20.toNat : Int) 16)))) : Int) > (b0.length : Int)))
 (ref07_Read_j1 b0 x20 x27 true K)
 (IfB (decide ((x27 : Int) < (IntKind.wrap .i64 (4 * (IntKind.wrap .i64 (Int.tmod (x20.toNat : Int) 16))))))
 (ref07_Read_j1 b0 x20 x27 true K)
 (IfB (decide ((x27 : Int) > (b0.length : Int)))
 (ref07_Read_j1 b0 x20 x27 true K)
 ((0 : Int) ≤ 6 ∧ AtN b0 6 fun x49 =>
 WfT ks_int_u8 x49 →
 ref07_Read_j1 b0 x20 x27 (decide (((x49.toNat : Int) : Int) ≥ 128)) K)))))))
def ref07_Read_q (b0 : List UInt8) (K : (Int × Int × Int × Int × Bool × Bool × UInt32 × UInt32 × List UInt8) → Int → Prop) : Prop :=
 IfB (decide (((b0.length : Int) : Int) < 20))
 (ref07_Read_j0 b0 true K)
 ((0 : Int) ≤ 0 ∧ AtN b0 0 fun x13 =>
 WfT ks_int_u8 x13 →
 (16 : Int) ≠ 0 ∧
 ref07_Read_j0 b0 (((IntKind.wrap .u8 (Int.tdiv (x13.toNat : Int) 16)) : Int) != 4) K)
noncomputable def tab_ref07_Read : List (Nat × Ct) := [(f_ref07_num, ct_ref07_num), (f_ref01_Right, ct_ref01_Right)]
theorem ref07_Read_eq : (fun (x : PkTs ref07_Read_ps) (K : PkTs ref07_Read_rs → Prop) => ref07_Read_q x.1 (fun r0 r1 => K (r0, r1, ()))) = fun x K => PCode Tryd.prog tab_ref07_Read plan_ref07_Read (bodyOf Tryd.f18) (parS ref07_Read_ps x) (PRet Tryd.prog Tryd.f18.results.toList fun a st => outP ref07_Read_rs st a K) := by kernel_rfl
theorem ref07_Read_fq : FnQ Tryd.prog f_ref07_Read ref07_Read_ps ref07_Read_rs (fun x K => ref07_Read_q x.1 (fun r0 r1 => K (r0, r1, ()))) := (fnQ_of k_ref07_Read (tab := tab_ref07_Read) ⟨ct_ref07_num_ok, ct_ref01_Right_ok, trivial⟩ rfl).of_eq ref07_Read_eq
noncomputable def ct_ref07_Read : Ct := ctVal ref07_Read_ps ref07_Read_rs (fun x K => ref07_Read_q x.1 (fun r0 r1 => K (r0, r1, ())))
theorem ct_ref07_Read_ok : SoundCt Tryd.prog f_ref07_Read ct_ref07_Read := ctVal_sound ref07_Read_fq
def plan_law07_same : PPlan := ⟨[], [], [], [], [], []⟩
theorem k_law07_same : Known Tryd.prog f_law07_same Tryd.f19 plan_law07_same.plan (bodyOf Tryd.f19) := ⟨Tryd.func19, by kernel_rfl, by kernel_rfl, by kernel_rfl, by kernel_rfl, by kernel_rfl⟩
abbrev law07_same_ps : List Pk := [Pk.agg [Kd.int .i64, Kd.int .i64, Kd.int .i64, Kd.int .i64, Kd.bool, Kd.bool, Kd.int .u32, Kd.int .u32, Kd.lst [Kd.int .u8]], Pk.agg [Kd.int .i64, Kd.int .i64, Kd.int .i64, Kd.int .i64, Kd.bool, Kd.bool, Kd.int .u32, Kd.int .u32, Kd.lst [Kd.int .u8]]]
abbrev law07_same_rs : List Pk := [Pk.bool]
def law07_same_q (a0 : Int × Int × Int × Int × Bool × Bool × UInt32 × UInt32 × List UInt8) (b1 : Int × Int × Int × Int × Bool × Bool × UInt32 × UInt32 × List UInt8) (K : Bool → Prop) : Prop :=
 IfB ((a0.1 : Int) == b1.1)
 (IfB ((a0.2.1 : Int) == b1.2.1)
 (IfB ((a0.2.2.1 : Int) == b1.2.2.1)
 (IfB ((a0.2.2.2.1 : Int) == b1.2.2.2.1)
 (IfB (a0.2.2.2.2.1 == b1.2.2.2.2.1)
 (IfB (a0.2.2.2.2.2.1 == b1.2.2.2.2.2.1)
 (IfB (((a0.2.2.2.2.2.2.1.toNat : Int) : Int) == (b1.2.2.2.2.2.2.1.toNat : Int))
 (IfB (((a0.2.2.2.2.2.2.2.1.toNat : Int) : Int) == (b1.2.2.2.2.2.2.2.1.toNat : Int))
 ((WfPs base_SameBytes_ps (a0.2.2.2.2.2.2.2.2, b1.2.2.2.2.2.2.2.2, ()) →
 base_SameBytes_q a0.2.2.2.2.2.2.2.2 b1.2.2.2.2.2.2.2.2 (fun x64 =>
 WfPs base_SameBytes_rs (x64, ()) →
 K x64)))
 (K false))
 (K false))
 (K false))
 (K false))
 (K false))
 (K false))
 (K false))
 (K false)
noncomputable def tab_law07_same : List (Nat × Ct) := [(f_base_SameBytes, ct_base_SameBytes)]
theorem law07_same_eq : (fun (x : PkTs law07_same_ps) (K : PkTs law07_same_rs → Prop) => law07_same_q x.1 x.2.1 (fun r0 => K (r0, ()))) = fun x K => PCode Tryd.prog tab_law07_same plan_law07_same (bodyOf Tryd.f19) (parS law07_same_ps x) (PRet Tryd.prog Tryd.f19.results.toList fun a st => outP law07_same_rs st a K) := by kernel_rfl
theorem law07_same_fq : FnQ Tryd.prog f_law07_same law07_same_ps law07_same_rs (fun x K => law07_same_q x.1 x.2.1 (fun r0 => K (r0, ()))) := (fnQ_of k_law07_same (tab := tab_law07_same) ⟨ct_base_SameBytes_ok, trivial⟩ rfl).of_eq law07_same_eq
noncomputable def ct_law07_same : Ct := ctRd law07_same_ps law07_same_rs (fun x K => law07_same_q x.1 x.2.1 (fun r0 => K (r0, ())))
theorem ct_law07_same_ok : SoundCt Tryd.prog f_law07_same ct_law07_same := ctRd_sound law07_same_fq
def plan_law07_IpReads : PPlan := ⟨[(4, [0, 2, 1, 3, 4, 5, 6, 7, 8, 9, 10, 11, 12], [25])], [], [], [], [], []⟩
theorem k_law07_IpReads : Known Tryd.prog f_law07_IpReads Tryd.f4 plan_law07_IpReads.plan (bodyOf Tryd.f4) := ⟨Tryd.func4, by kernel_rfl, by kernel_rfl, by kernel_rfl, by kernel_rfl, by kernel_rfl⟩
abbrev law07_IpReads_ps : List Pk := [Pk.lst [Kd.int .u8]]
abbrev law07_IpReads_rs : List Pk := [Pk.bool]
def law07_IpReads_q (b0 : List UInt8) (K : Bool → Prop) : Prop :=
 (0 : Int) ≤ (min (b0.length : Int) 2000) ∧ (min (b0.length : Int) 2000) ≤ (b0.length : Int) ∧
 (WfPs base_Bytes_ps ((b0.take ((min (b0.length : Int) 2000).toNat)), ()) →
 base_Bytes_q (b0.take ((min (b0.length : Int) 2000).toNat)) (fun x14 =>
 WfPs base_Bytes_rs (x14, ()) →
 (WfPs ip_Read_ps (x14, ()) →
 ip_Read_q x14 (fun x15r0 x15r1 =>
 WfPs ip_Read_rs (x15r0, x15r1, ()) →
 (WfPs ref07_Read_ps ((b0.take ((min (b0.length : Int) 2000).toNat)), ()) →
 ref07_Read_q (b0.take ((min (b0.length : Int) 2000).toNat)) (fun x20r0 x20r1 =>
 WfPs ref07_Read_rs (x20r0, x20r1, ()) →
 (WfPs law07_plain_ps (((x15r0.1, x15r0.2.1, x15r0.2.2.1, x15r0.2.2.2.1, x15r0.2.2.2.2.1, x15r0.2.2.2.2.2.1, (ofI .u32 (x15r0.2.2.2.2.2.2.1.toNat : Int)), (ofI .u32 (x15r0.2.2.2.2.2.2.2.1.toNat : Int)), x15r0.2.2.2.2.2.2.2.2) : Int × Int × Int × Int × Bool × Bool × UInt32 × UInt32 × List UInt8), ()) →
 law07_plain_q ((x15r0.1, x15r0.2.1, x15r0.2.2.1, x15r0.2.2.2.1, x15r0.2.2.2.2.1, x15r0.2.2.2.2.2.1, (ofI .u32 (x15r0.2.2.2.2.2.2.1.toNat : Int)), (ofI .u32 (x15r0.2.2.2.2.2.2.2.1.toNat : Int)), x15r0.2.2.2.2.2.2.2.2) : Int × Int × Int × Int × Bool × Bool × UInt32 × UInt32 × List UInt8) (fun x24 =>
 WfPs law07_plain_rs (x24, ()) →
 (WfPs law07_same_ps (((x24.1, x24.2.1, x24.2.2.1, x24.2.2.2.1, x24.2.2.2.2.1, x24.2.2.2.2.2.1, (ofI .u32 (x24.2.2.2.2.2.2.1.toNat : Int)), (ofI .u32 (x24.2.2.2.2.2.2.2.1.toNat : Int)), x24.2.2.2.2.2.2.2.2) : Int × Int × Int × Int × Bool × Bool × UInt32 × UInt32 × List UInt8), ((x20r0.1, x20r0.2.1, x20r0.2.2.1, x20r0.2.2.2.1, x20r0.2.2.2.2.1, x20r0.2.2.2.2.2.1, (ofI .u32 (x20r0.2.2.2.2.2.2.1.toNat : Int)), (ofI .u32 (x20r0.2.2.2.2.2.2.2.1.toNat : Int)), x20r0.2.2.2.2.2.2.2.2) : Int × Int × Int × Int × Bool × Bool × UInt32 × UInt32 × List UInt8), ()) →
 law07_same_q ((x24.1, x24.2.1, x24.2.2.1, x24.2.2.2.1, x24.2.2.2.2.1, x24.2.2.2.2.2.1, (ofI .u32 (x24.2.2.2.2.2.2.1.toNat : Int)), (ofI .u32 (x24.2.2.2.2.2.2.2.1.toNat : Int)), x24.2.2.2.2.2.2.2.2) : Int × Int × Int × Int × Bool × Bool × UInt32 × UInt32 × List UInt8) ((x20r0.1, x20r0.2.1, x20r0.2.2.1, x20r0.2.2.2.1, x20r0.2.2.2.2.1, x20r0.2.2.2.2.2.1, (ofI .u32 (x20r0.2.2.2.2.2.2.1.toNat : Int)), (ofI .u32 (x20r0.2.2.2.2.2.2.2.1.toNat : Int)), x20r0.2.2.2.2.2.2.2.2) : Int × Int × Int × Int × Bool × Bool × UInt32 × UInt32 × List UInt8) (fun x26 =>
 WfPs law07_same_rs (x26, ()) →
 IfB x26
 (IfB ((x15r1 : Int) == x20r1)
 ((WfPs law07_works_ps (()) →
 law07_works_q  (fun x33 =>
 WfPs law07_works_rs (x33, ()) →
 K x33)))
 (K false))
 (K false)))))))))))
noncomputable def tab_law07_IpReads : List (Nat × Ct) := [(f_law07_plain, ct_law07_plain), (f_law07_works, ct_law07_works), (f_ip_Read, ct_ip_Read), (f_base_Bytes, ct_base_Bytes), (f_ref07_Read, ct_ref07_Read), (f_law07_same, ct_law07_same)]
theorem law07_IpReads_eq : (fun (x : PkTs law07_IpReads_ps) (K : PkTs law07_IpReads_rs → Prop) => law07_IpReads_q x.1 (fun r0 => K (r0, ()))) = fun x K => PCode Tryd.prog tab_law07_IpReads plan_law07_IpReads (bodyOf Tryd.f4) (parS law07_IpReads_ps x) (PRet Tryd.prog Tryd.f4.results.toList fun a st => outP law07_IpReads_rs st a K) := by kernel_rfl
theorem law07_IpReads_fq : FnQ Tryd.prog f_law07_IpReads law07_IpReads_ps law07_IpReads_rs (fun x K => law07_IpReads_q x.1 (fun r0 => K (r0, ()))) := (fnQ_of k_law07_IpReads (tab := tab_law07_IpReads) ⟨ct_law07_plain_ok, ct_law07_works_ok, ct_ip_Read_ok, ct_base_Bytes_ok, ct_ref07_Read_ok, ct_law07_same_ok, trivial⟩ rfl).of_eq law07_IpReads_eq
noncomputable def ct_law07_IpReads : Ct := ctRd law07_IpReads_ps law07_IpReads_rs (fun x K => law07_IpReads_q x.1 (fun r0 => K (r0, ())))
theorem ct_law07_IpReads_ok : SoundCt Tryd.prog f_law07_IpReads ct_law07_IpReads := ctRd_sound law07_IpReads_fq
end Go.Proofs.YtolmljommmhpkaaDoor
