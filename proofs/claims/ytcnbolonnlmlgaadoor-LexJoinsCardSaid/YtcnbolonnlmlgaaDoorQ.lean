/-
  EACH FUNCTION OVER PLAIN DATA: printed by a program of ours over this translation.
-/
import Derived.Test.YtcnbolonnlmlgaaDoorNum
import Derived.Test.YtcnbolonnlmlgaaDoorLaidS
import Derived.Test.YtcnbolonnlmlgaaDoorLibS24
import Derived.Test.YtcnbolonnlmlgaaDoorJB
set_option maxRecDepth 100000
set_option maxHeartbeats 4000000
set_option linter.unusedVariables false
namespace Go.Proofs.YtcnbolonnlmlgaaDoor
open Go.Sh
abbrev ks_str : List Kd := [Kd.str]
abbrev ks_1 : List Kd := [Kd.int .i64, Kd.str, Kd.int .i64, Kd.int .u32, Kd.int .i64, Kd.int .i64]
def plan_lex_may : PPlan := ⟨[], [], [], [], [], []⟩
theorem k_lex_may : Known Tryd.prog f_lex_may Tryd.f10 plan_lex_may.plan (bodyOf Tryd.f10) := ⟨Tryd.func10, by kernel_rfl, by kernel_rfl, by kernel_rfl, by kernel_rfl, by kernel_rfl⟩
abbrev lex_may_ps : List Pk := [Pk.int .u8]
abbrev lex_may_rs : List Pk := [Pk.bool]
def lex_may_q (c0 : Int) (K : Bool → Prop) : Prop :=
 IfB (decide ((c0 : Int) ≥ 32))
 (IfB (decide ((c0 : Int) ≤ 126))
 (K true)
 (K ((c0 : Int) == 9)))
 (K ((c0 : Int) == 9))
noncomputable def tab_lex_may : Tab := ⟨[], []⟩
theorem lex_may_eq : (fun (x : PkTs lex_may_ps) (K : PkTs lex_may_rs → Prop) => lex_may_q x.1 (fun r0 => K (r0, ()))) = fun x K => PCode Tryd.prog tab_lex_may plan_lex_may (bodyOf Tryd.f10) (parS lex_may_ps x) (PRet Tryd.prog Tryd.f10.results.toList fun a st => outP lex_may_rs st a K) := by kernel_rfl
theorem lex_may_fq : FnQ Tryd.prog f_lex_may lex_may_ps lex_may_rs (fun x K => lex_may_q x.1 (fun r0 => K (r0, ()))) := (fnQ_of k_lex_may (tab := tab_lex_may) ⟨trivial, trivial⟩ rfl).of_eq lex_may_eq
noncomputable def ct_lex_may : Ct := ctRd lex_may_ps lex_may_rs (fun x K => lex_may_q x.1 (fun r0 => K (r0, ())))
theorem ct_lex_may_ok : SoundCt Tryd.prog f_lex_may ct_lex_may := ctRd_sound lex_may_fq
def plan_lex_letter : PPlan := ⟨[], [], [], [], [], []⟩
theorem k_lex_letter : Known Tryd.prog f_lex_letter Tryd.f18 plan_lex_letter.plan (bodyOf Tryd.f18) := ⟨Tryd.func18, by kernel_rfl, by kernel_rfl, by kernel_rfl, by kernel_rfl, by kernel_rfl⟩
abbrev lex_letter_ps : List Pk := [Pk.int .u8]
abbrev lex_letter_rs : List Pk := [Pk.bool]
def lex_letter_q (c0 : Int) (K : Bool → Prop) : Prop :=
 IfB (decide (((bitsOr .u8 c0 32) : Int) ≥ 97))
 (K (decide (((bitsOr .u8 c0 32) : Int) ≤ 122)))
 (K false)
noncomputable def tab_lex_letter : Tab := ⟨[], []⟩
theorem lex_letter_eq : (fun (x : PkTs lex_letter_ps) (K : PkTs lex_letter_rs → Prop) => lex_letter_q x.1 (fun r0 => K (r0, ()))) = fun x K => PCode Tryd.prog tab_lex_letter plan_lex_letter (bodyOf Tryd.f18) (parS lex_letter_ps x) (PRet Tryd.prog Tryd.f18.results.toList fun a st => outP lex_letter_rs st a K) := by kernel_rfl
theorem lex_letter_fq : FnQ Tryd.prog f_lex_letter lex_letter_ps lex_letter_rs (fun x K => lex_letter_q x.1 (fun r0 => K (r0, ()))) := (fnQ_of k_lex_letter (tab := tab_lex_letter) ⟨trivial, trivial⟩ rfl).of_eq lex_letter_eq
noncomputable def ct_lex_letter : Ct := ctRd lex_letter_ps lex_letter_rs (fun x K => lex_letter_q x.1 (fun r0 => K (r0, ())))
theorem ct_lex_letter_ok : SoundCt Tryd.prog f_lex_letter ct_lex_letter := ctRd_sound lex_letter_fq
def plan_lex_part : PPlan := ⟨[], [], [], [], [], []⟩
theorem k_lex_part : Known Tryd.prog f_lex_part Tryd.f12 plan_lex_part.plan (bodyOf Tryd.f12) := ⟨Tryd.func12, by kernel_rfl, by kernel_rfl, by kernel_rfl, by kernel_rfl, by kernel_rfl⟩
abbrev lex_part_ps : List Pk := [Pk.int .u8]
abbrev lex_part_rs : List Pk := [Pk.bool]
def lex_part_q (c0 : Int) (K : Bool → Prop) : Prop :=
 (WfPs lex_letter_ps (c0, ()) →
 lex_letter_q c0 (fun x4 =>
 WfPs lex_letter_rs (x4, ()) →
 IfB x4
 (K true)
 (IfB (decide ((c0 : Int) ≥ 48))
 (IfB (decide ((c0 : Int) ≤ 57))
 (K true)
 ((WfPs strings_IndexByte_ps (([95, 45, 46, 58, 47] : List UInt8), c0, ()) →
 strings_IndexByte_q ([95, 45, 46, 58, 47] : List UInt8) c0 (fun x15 =>
 WfPs strings_IndexByte_rs (x15, ()) →
 K (decide ((x15 : Int) ≥ 0))))))
 ((WfPs strings_IndexByte_ps (([95, 45, 46, 58, 47] : List UInt8), c0, ()) →
 strings_IndexByte_q ([95, 45, 46, 58, 47] : List UInt8) c0 (fun x15_1 =>
 WfPs strings_IndexByte_rs (x15_1, ()) →
 K (decide ((x15_1 : Int) ≥ 0))))))))
noncomputable def tab_lex_part : Tab := ⟨[(f_strings_IndexByte, ct_strings_IndexByte), (f_lex_letter, ct_lex_letter)], []⟩
theorem lex_part_eq : (fun (x : PkTs lex_part_ps) (K : PkTs lex_part_rs → Prop) => lex_part_q x.1 (fun r0 => K (r0, ()))) = fun x K => PCode Tryd.prog tab_lex_part plan_lex_part (bodyOf Tryd.f12) (parS lex_part_ps x) (PRet Tryd.prog Tryd.f12.results.toList fun a st => outP lex_part_rs st a K) := by kernel_rfl
theorem lex_part_fq : FnQ Tryd.prog f_lex_part lex_part_ps lex_part_rs (fun x K => lex_part_q x.1 (fun r0 => K (r0, ()))) := (fnQ_of k_lex_part (tab := tab_lex_part) ⟨⟨ct_strings_IndexByte_ok, ct_lex_letter_ok, trivial⟩, trivial⟩ rfl).of_eq lex_part_eq
noncomputable def ct_lex_part : Ct := ctRd lex_part_ps lex_part_rs (fun x K => lex_part_q x.1 (fun r0 => K (r0, ())))
theorem ct_lex_part_ok : SoundCt Tryd.prog f_lex_part ct_lex_part := ctRd_sound lex_part_fq
def plan_lex_whole : PPlan := ⟨[], [], [], [], [], []⟩
theorem k_lex_whole : Known Tryd.prog f_lex_whole Tryd.f20 plan_lex_whole.plan (bodyOf Tryd.f20) := ⟨Tryd.func20, by kernel_rfl, by kernel_rfl, by kernel_rfl, by kernel_rfl, by kernel_rfl⟩
abbrev lex_whole_ps : List Pk := [Pk.str, Pk.int .i64]
abbrev lex_whole_rs : List Pk := [Pk.int .i64, Pk.bool]
def lex_whole_q (s0 : List UInt8) (most1 : Int) (K : Int → Bool → Prop) : Prop :=
 (WfPs strconv_Atoi_ps (s0, ()) →
 strconv_Atoi_q s0 (fun x10r0 x10r1 =>
 WfPs strconv_Atoi_rs (x10r0, x10r1, ()) →
 IfB x10r1
 (IfB (decide ((x10r0 : Int) ≥ 0))
 (IfB (decide ((x10r0 : Int) ≤ most1))
 ((WfPs strconv_Itoa_ps (x10r0, ()) →
 strconv_Itoa_q x10r0 (fun x27 =>
 WfPs strconv_Itoa_rs (x27, ()) →
 K x10r0 (x27 == s0))))
 (K x10r0 false))
 (K x10r0 false))
 (K x10r0 false)))
noncomputable def tab_lex_whole : Tab := ⟨[(f_strconv_Atoi, ct_strconv_Atoi), (f_strconv_Itoa, ct_strconv_Itoa)], []⟩
theorem lex_whole_eq : (fun (x : PkTs lex_whole_ps) (K : PkTs lex_whole_rs → Prop) => lex_whole_q x.1 x.2.1 (fun r0 r1 => K (r0, r1, ()))) = fun x K => PCode Tryd.prog tab_lex_whole plan_lex_whole (bodyOf Tryd.f20) (parS lex_whole_ps x) (PRet Tryd.prog Tryd.f20.results.toList fun a st => outP lex_whole_rs st a K) := by kernel_rfl
theorem lex_whole_fq : FnQ Tryd.prog f_lex_whole lex_whole_ps lex_whole_rs (fun x K => lex_whole_q x.1 x.2.1 (fun r0 r1 => K (r0, r1, ()))) := (fnQ_of k_lex_whole (tab := tab_lex_whole) ⟨⟨ct_strconv_Atoi_ok, ct_strconv_Itoa_ok, trivial⟩, trivial⟩ rfl).of_eq lex_whole_eq
noncomputable def ct_lex_whole : Ct := ctRd lex_whole_ps lex_whole_rs (fun x K => lex_whole_q x.1 x.2.1 (fun r0 r1 => K (r0, r1, ())))
theorem ct_lex_whole_ok : SoundCt Tryd.prog f_lex_whole ct_lex_whole := ctRd_sound lex_whole_fq
def plan_upd_number : PPlan := ⟨[], [], [], [], [], []⟩
theorem k_upd_number : Known Tryd.prog f_upd_number Tryd.f39 plan_upd_number.plan (bodyOf Tryd.f39) := ⟨Tryd.func39, by kernel_rfl, by kernel_rfl, by kernel_rfl, by kernel_rfl, by kernel_rfl⟩
abbrev upd_number_ps : List Pk := [Pk.str]
abbrev upd_number_rs : List Pk := [Pk.int .i64]
def upd_number_j0 (x7r0 : Int) (j1 : Bool) (K : Int → Prop) : Prop :=
 IfB j1
 (K (-1))
 (K x7r0)
def upd_number_q (s0 : List UInt8) (K : Int → Prop) : Prop :=
 (WfPs strconv_Atoi_ps (s0, ()) →
 strconv_Atoi_q s0 (fun x7r0 x7r1 =>
 WfPs strconv_Atoi_rs (x7r0, x7r1, ()) →
 IfB (!x7r1)
 (upd_number_j0 x7r0 true K)
 ((WfPs strconv_Itoa_ps (x7r0, ()) →
 strconv_Itoa_q x7r0 (fun x14 =>
 WfPs strconv_Itoa_rs (x14, ()) →
 upd_number_j0 x7r0 (!(x14 == s0)) K)))))
noncomputable def tab_upd_number : Tab := ⟨[(f_strconv_Atoi, ct_strconv_Atoi), (f_strconv_Itoa, ct_strconv_Itoa)], []⟩
theorem upd_number_eq : (fun (x : PkTs upd_number_ps) (K : PkTs upd_number_rs → Prop) => upd_number_q x.1 (fun r0 => K (r0, ()))) = fun x K => PCode Tryd.prog tab_upd_number plan_upd_number (bodyOf Tryd.f39) (parS upd_number_ps x) (PRet Tryd.prog Tryd.f39.results.toList fun a st => outP upd_number_rs st a K) := by kernel_rfl
theorem upd_number_fq : FnQ Tryd.prog f_upd_number upd_number_ps upd_number_rs (fun x K => upd_number_q x.1 (fun r0 => K (r0, ()))) := (fnQ_of k_upd_number (tab := tab_upd_number) ⟨⟨ct_strconv_Atoi_ok, ct_strconv_Itoa_ok, trivial⟩, trivial⟩ rfl).of_eq upd_number_eq
noncomputable def ct_upd_number : Ct := ctRd upd_number_ps upd_number_rs (fun x K => upd_number_q x.1 (fun r0 => K (r0, ())))
theorem ct_upd_number_ok : SoundCt Tryd.prog f_upd_number ct_upd_number := ctRd_sound upd_number_fq
def plan_upd_mask : PPlan := ⟨[], [], [], [], [], []⟩
theorem k_upd_mask : Known Tryd.prog f_upd_mask Tryd.f53 plan_upd_mask.plan (bodyOf Tryd.f53) := ⟨Tryd.func53, by kernel_rfl, by kernel_rfl, by kernel_rfl, by kernel_rfl, by kernel_rfl⟩
abbrev upd_mask_ps : List Pk := [Pk.int .u32, Pk.int .i64]
abbrev upd_mask_rs : List Pk := [Pk.int .u32]
def upd_mask_q (a0 : Int) (n1 : Int) (K : Int → Prop) : Prop :=
 (0 : Int) ≤ (IntKind.wrap .i64 (32 - n1)) ∧
 K (bitsAndNot .u32 a0 (IntKind.wrap .u32 (IntKind.wrap .u64 ((IntKind.wrap .u64 (1 * (2 ^ (min ((IntKind.wrap .i64 (32 - n1)) : Int).toNat (IntKind.bits .u64))))) - 1))))
noncomputable def tab_upd_mask : Tab := ⟨[], []⟩
theorem upd_mask_eq : (fun (x : PkTs upd_mask_ps) (K : PkTs upd_mask_rs → Prop) => upd_mask_q x.1 x.2.1 (fun r0 => K (r0, ()))) = fun x K => PCode Tryd.prog tab_upd_mask plan_upd_mask (bodyOf Tryd.f53) (parS upd_mask_ps x) (PRet Tryd.prog Tryd.f53.results.toList fun a st => outP upd_mask_rs st a K) := by kernel_rfl
theorem upd_mask_fq : FnQ Tryd.prog f_upd_mask upd_mask_ps upd_mask_rs (fun x K => upd_mask_q x.1 x.2.1 (fun r0 => K (r0, ()))) := (fnQ_of k_upd_mask (tab := tab_upd_mask) ⟨trivial, trivial⟩ rfl).of_eq upd_mask_eq
noncomputable def ct_upd_mask : Ct := ctRd upd_mask_ps upd_mask_rs (fun x K => upd_mask_q x.1 x.2.1 (fun r0 => K (r0, ())))
theorem ct_upd_mask_ok : SoundCt Tryd.prog f_upd_mask ct_upd_mask := ctRd_sound upd_mask_fq
def plan_upd_Right : PPlan := ⟨[(1, [0, 1, 2, 3, 4, 5, 6, 7, 8, 9, 10, 11, 12, 14, 15, 13, 16, 17, 18], [18])], [], [], [], [], []⟩
theorem k_upd_Right : Known Tryd.prog f_upd_Right Tryd.f40 plan_upd_Right.plan (bodyOf Tryd.f40) := ⟨Tryd.func40, by kernel_rfl, by kernel_rfl, by kernel_rfl, by kernel_rfl, by kernel_rfl⟩
abbrev upd_Right_ps : List Pk := [Pk.agg [Kd.int .u32, Kd.int .i64]]
abbrev upd_Right_rs : List Pk := [Pk.bool]
def upd_Right_q (p0 : UInt32 × Int) (K : Bool → Prop) : Prop :=
 IfB (decide ((p0.2 : Int) ≥ 0))
 (IfB (decide ((p0.2 : Int) ≤ 32))
 ((WfPs upd_mask_ps ((p0.1.toNat : Int), p0.2, ()) →
 upd_mask_q (p0.1.toNat : Int) p0.2 (fun x16 =>
 WfPs upd_mask_rs (x16, ()) →
 K ((x16 : Int) == (p0.1.toNat : Int)))))
 (K false))
 (K false)
noncomputable def tab_upd_Right : Tab := ⟨[(f_upd_mask, ct_upd_mask)], []⟩
theorem upd_Right_eq : (fun (x : PkTs upd_Right_ps) (K : PkTs upd_Right_rs → Prop) => upd_Right_q x.1 (fun r0 => K (r0, ()))) = fun x K => PCode Tryd.prog tab_upd_Right plan_upd_Right (bodyOf Tryd.f40) (parS upd_Right_ps x) (PRet Tryd.prog Tryd.f40.results.toList fun a st => outP upd_Right_rs st a K) := by kernel_rfl
theorem upd_Right_fq : FnQ Tryd.prog f_upd_Right upd_Right_ps upd_Right_rs (fun x K => upd_Right_q x.1 (fun r0 => K (r0, ()))) := (fnQ_of k_upd_Right (tab := tab_upd_Right) ⟨⟨ct_upd_mask_ok, trivial⟩, trivial⟩ rfl).of_eq upd_Right_eq
noncomputable def ct_upd_Right : Ct := ctRd upd_Right_ps upd_Right_rs (fun x K => upd_Right_q x.1 (fun r0 => K (r0, ())))
theorem ct_upd_Right_ok : SoundCt Tryd.prog f_upd_Right ct_upd_Right := ctRd_sound upd_Right_fq
def pl_upd_Parse_7 : PLoop := ⟨[(32, PK.int .i64)], [2, 4, 30, 31], [(4, [PK.int .u32, PK.int .i64])]⟩
def plan_upd_Parse : PPlan := ⟨[], [(7, pl_upd_Parse_7)], [], [], [], []⟩
theorem k_upd_Parse : Known Tryd.prog f_upd_Parse Tryd.f22 plan_upd_Parse.plan (bodyOf Tryd.f22) := ⟨Tryd.func22, by kernel_rfl, by kernel_rfl, by kernel_rfl, by kernel_rfl, by kernel_rfl⟩
abbrev upd_Parse_ps : List Pk := [Pk.str]
abbrev upd_Parse_rs : List Pk := [Pk.agg [Kd.int .u32, Kd.int .i64], Pk.int .i64]
def upd_Parse_j2  (K : (UInt32 × Int) → Int → Prop) : Prop :=
 K ((ofI .u32 0), 0) 5
def upd_Parse_j1  (K : (UInt32 × Int) → Int → Prop) : Prop :=
 upd_Parse_j2 K
def upd_Parse_j3 (c0 : Int) (c1 : Int) (x37 : Int) (x19 : List (List UInt8)) (x32 : Int) (next7 : (Int × Int × Int × Unit) → Prop) (j8 : Bool) (K : (UInt32 × Int) → Int → Prop) : Prop :=
 IfB j8
 (upd_Parse_j1 K)
 ((0 : Int) ≤ 8 ∧
 next7 ((IntKind.wrap .i64 (x32 + 1)), (bitsOr .u32 (IntKind.wrap .u32 (c0 * 256)) (IntKind.wrap .u32 x37)), c1, ()))
def upd_Parse_l7 (x21 : Int) (x19 : List (List UInt8)) (x32 : Int) (c0 : Int) (c1 : Int) (next7 : (Int × Int × Int × Unit) → Prop) (K : (UInt32 × Int) → Int → Prop) : Prop :=
 IfB (decide ((x32 : Int) < (x19.length : Int)))
 ((0 : Int) ≤ x32 ∧ x32 < (x19.length : Int) ∧
 AtN x19 x32.toNat fun x35 =>
 WfT ks_str x35 →
 (WfPs upd_number_ps (x35, ()) →
 upd_number_q x35 (fun x37 =>
 WfPs upd_number_rs (x37, ()) →
 IfB (decide ((x37 : Int) < 0))
 (upd_Parse_j3 c0 c1 x37 x19 x32 next7 true K)
 (upd_Parse_j3 c0 c1 x37 x19 x32 next7 (decide ((x37 : Int) > 255)) K))))
 ((WfPs upd_Right_ps ((((ofI .u32 c0), c1) : UInt32 × Int), ()) →
 upd_Right_q (((ofI .u32 c0), c1) : UInt32 × Int) (fun x53 =>
 WfPs upd_Right_rs (x53, ()) →
 IfB x53
 (K ((ofI .u32 c0), c1) 0)
 (upd_Parse_j2 K))))
def upd_Parse_j0 (x21 : Int) (x19 : List (List UInt8)) (j5 : Bool) (K : (UInt32 × Int) → Int → Prop) : Prop :=
 IfB j5
 (upd_Parse_j1 K)
 (LoopJ (Int × Int × Int × Unit) ((0 : Int), (0 : Int), x21, ()) fun y next =>
 WfY pl_upd_Parse_7.kinds y →
 upd_Parse_l7 x21 x19 y.1 y.2.1 y.2.2.1 next K)
def upd_Parse_q (s0 : List UInt8) (K : (UInt32 × Int) → Int → Prop) : Prop :=
 (WfPs strings_Cut_ps (s0, ([47] : List UInt8), ()) →
 strings_Cut_q s0 ([47] : List UInt8) (fun x14r0 x14r1 x14r2 =>
 WfPs strings_Cut_rs (x14r0, x14r1, x14r2, ()) →
 (WfPs strings_Split_ps (x14r0, ([46] : List UInt8), ()) →
 strings_Split_q x14r0 ([46] : List UInt8) (fun x19 =>
 WfPs strings_Split_rs (x19, ()) →
 (WfPs upd_number_ps (x14r1, ()) →
 upd_number_q x14r1 (fun x21 =>
 WfPs upd_number_rs (x21, ()) →
 IfB (!x14r2)
 (upd_Parse_j0 x21 x19 true K)
 (upd_Parse_j0 x21 x19 (((x19.length : Int) : Int) != 4) K)))))))
noncomputable def tab_upd_Parse : Tab := ⟨[(f_strings_Cut, ct_strings_Cut), (f_strings_Split, ct_strings_Split), (f_upd_number, ct_upd_number), (f_upd_Right, ct_upd_Right)], []⟩
theorem upd_Parse_eq : (fun (x : PkTs upd_Parse_ps) (K : PkTs upd_Parse_rs → Prop) => upd_Parse_q x.1 (fun r0 r1 => K (r0, r1, ()))) = fun x K => PCode Tryd.prog tab_upd_Parse plan_upd_Parse (bodyOf Tryd.f22) (parS upd_Parse_ps x) (PRet Tryd.prog Tryd.f22.results.toList fun a st => outP upd_Parse_rs st a K) := by kernel_rfl
theorem upd_Parse_fq : FnQ Tryd.prog f_upd_Parse upd_Parse_ps upd_Parse_rs (fun x K => upd_Parse_q x.1 (fun r0 r1 => K (r0, r1, ()))) := (fnQ_of k_upd_Parse (tab := tab_upd_Parse) ⟨⟨ct_strings_Cut_ok, ct_strings_Split_ok, ct_upd_number_ok, ct_upd_Right_ok, trivial⟩, trivial⟩ rfl).of_eq upd_Parse_eq
noncomputable def ct_upd_Parse : Ct := ctVal upd_Parse_ps upd_Parse_rs (fun x K => upd_Parse_q x.1 (fun r0 r1 => K (r0, r1, ())))
theorem ct_upd_Parse_ok : SoundCt Tryd.prog f_upd_Parse ct_upd_Parse := ctVal_sound upd_Parse_fq
def plan_lex_halves : PPlan := ⟨[], [], [], [], [], []⟩
theorem k_lex_halves : Known Tryd.prog f_lex_halves Tryd.f23 plan_lex_halves.plan (bodyOf Tryd.f23) := ⟨Tryd.func23, by kernel_rfl, by kernel_rfl, by kernel_rfl, by kernel_rfl, by kernel_rfl⟩
abbrev lex_halves_ps : List Pk := [Pk.str]
abbrev lex_halves_rs : List Pk := [Pk.int .i64, Pk.bool]
def lex_halves_q (s0 : List UInt8) (K : Int → Bool → Prop) : Prop :=
 (WfPs strings_Cut_ps (s0, ([58] : List UInt8), ()) →
 strings_Cut_q s0 ([58] : List UInt8) (fun x13r0 x13r1 x13r2 =>
 WfPs strings_Cut_rs (x13r0, x13r1, x13r2, ()) →
 (WfPs lex_whole_ps (x13r0, (65535 : Int), ()) →
 lex_whole_q x13r0 (65535 : Int) (fun x19r0 x19r1 =>
 WfPs lex_whole_rs (x19r0, x19r1, ()) →
 (WfPs lex_whole_ps (x13r1, (65535 : Int), ()) →
 lex_whole_q x13r1 (65535 : Int) (fun x24r0 x24r1 =>
 WfPs lex_whole_rs (x24r0, x24r1, ()) →
 (0 : Int) ≤ 16 ∧
 IfB x19r1
 (K (bitsOr .i64 (IntKind.wrap .i64 (x19r0 * 65536)) x24r0) x24r1)
 (K (bitsOr .i64 (IntKind.wrap .i64 (x19r0 * 65536)) x24r0) false)))))))
noncomputable def tab_lex_halves : Tab := ⟨[(f_lex_whole, ct_lex_whole), (f_strings_Cut, ct_strings_Cut)], []⟩
theorem lex_halves_eq : (fun (x : PkTs lex_halves_ps) (K : PkTs lex_halves_rs → Prop) => lex_halves_q x.1 (fun r0 r1 => K (r0, r1, ()))) = fun x K => PCode Tryd.prog tab_lex_halves plan_lex_halves (bodyOf Tryd.f23) (parS lex_halves_ps x) (PRet Tryd.prog Tryd.f23.results.toList fun a st => outP lex_halves_rs st a K) := by kernel_rfl
theorem lex_halves_fq : FnQ Tryd.prog f_lex_halves lex_halves_ps lex_halves_rs (fun x K => lex_halves_q x.1 (fun r0 r1 => K (r0, r1, ()))) := (fnQ_of k_lex_halves (tab := tab_lex_halves) ⟨⟨ct_lex_whole_ok, ct_strings_Cut_ok, trivial⟩, trivial⟩ rfl).of_eq lex_halves_eq
noncomputable def ct_lex_halves : Ct := ctRd lex_halves_ps lex_halves_rs (fun x K => lex_halves_q x.1 (fun r0 r1 => K (r0, r1, ())))
theorem ct_lex_halves_ok : SoundCt Tryd.prog f_lex_halves ct_lex_halves := ctRd_sound lex_halves_fq
def plan_ip_octet : PPlan := ⟨[], [], [], [], [], []⟩
theorem k_ip_octet : Known Tryd.prog f_ip_octet Tryd.f41 plan_ip_octet.plan (bodyOf Tryd.f41) := ⟨Tryd.func41, by kernel_rfl, by kernel_rfl, by kernel_rfl, by kernel_rfl, by kernel_rfl⟩
abbrev ip_octet_ps : List Pk := [Pk.str]
abbrev ip_octet_rs : List Pk := [Pk.int .i64]
def ip_octet_j0 (x7r0 : Int) (j1 : Bool) (K : Int → Prop) : Prop :=
 IfB j1
 (K (-1))
 (K x7r0)
def ip_octet_q (s0 : List UInt8) (K : Int → Prop) : Prop :=
 (WfPs strconv_Atoi_ps (s0, ()) →
 strconv_Atoi_q s0 (fun x7r0 x7r1 =>
 WfPs strconv_Atoi_rs (x7r0, x7r1, ()) →
 IfB (!x7r1)
 (ip_octet_j0 x7r0 true K)
 (IfB (decide ((x7r0 : Int) > 255))
 (ip_octet_j0 x7r0 true K)
 ((WfPs strconv_Itoa_ps (x7r0, ()) →
 strconv_Itoa_q x7r0 (fun x18 =>
 WfPs strconv_Itoa_rs (x18, ()) →
 ip_octet_j0 x7r0 (!(x18 == s0)) K))))))
noncomputable def tab_ip_octet : Tab := ⟨[(f_strconv_Atoi, ct_strconv_Atoi), (f_strconv_Itoa, ct_strconv_Itoa)], []⟩
theorem ip_octet_eq : (fun (x : PkTs ip_octet_ps) (K : PkTs ip_octet_rs → Prop) => ip_octet_q x.1 (fun r0 => K (r0, ()))) = fun x K => PCode Tryd.prog tab_ip_octet plan_ip_octet (bodyOf Tryd.f41) (parS ip_octet_ps x) (PRet Tryd.prog Tryd.f41.results.toList fun a st => outP ip_octet_rs st a K) := by kernel_rfl
theorem ip_octet_fq : FnQ Tryd.prog f_ip_octet ip_octet_ps ip_octet_rs (fun x K => ip_octet_q x.1 (fun r0 => K (r0, ()))) := (fnQ_of k_ip_octet (tab := tab_ip_octet) ⟨⟨ct_strconv_Atoi_ok, ct_strconv_Itoa_ok, trivial⟩, trivial⟩ rfl).of_eq ip_octet_eq
noncomputable def ct_ip_octet : Ct := ctRd ip_octet_ps ip_octet_rs (fun x K => ip_octet_q x.1 (fun r0 => K (r0, ())))
theorem ct_ip_octet_ok : SoundCt Tryd.prog f_ip_octet ct_ip_octet := ctRd_sound ip_octet_fq
def pl_ip_Parse_6 : PLoop := ⟨[(5, PK.int .u32), (16, PK.int .i64)], [14, 15], []⟩
def plan_ip_Parse : PPlan := ⟨[], [(6, pl_ip_Parse_6)], [], [], [], []⟩
theorem k_ip_Parse : Known Tryd.prog f_ip_Parse Tryd.f24 plan_ip_Parse.plan (bodyOf Tryd.f24) := ⟨Tryd.func24, by kernel_rfl, by kernel_rfl, by kernel_rfl, by kernel_rfl, by kernel_rfl⟩
abbrev ip_Parse_ps : List Pk := [Pk.str]
abbrev ip_Parse_rs : List Pk := [Pk.int .u32, Pk.int .i64]
def ip_Parse_l6 (x10 : List (List UInt8)) (a5 : Int) (x16 : Int) (next6 : (Int × Int × Unit) → Prop) (K : Int → Int → Prop) : Prop :=
 IfB (decide ((x16 : Int) < (x10.length : Int)))
 ((0 : Int) ≤ x16 ∧ x16 < (x10.length : Int) ∧
 AtN x10 x16.toNat fun x19 =>
 WfT ks_str x19 →
 (WfPs ip_octet_ps (x19, ()) →
 ip_octet_q x19 (fun x21 =>
 WfPs ip_octet_rs (x21, ()) →
 IfB (decide ((x21 : Int) < 0))
 (K 0 2)
 ((0 : Int) ≤ 8 ∧
 next6 ((bitsOr .u32 (IntKind.wrap .u32 (a5 * 256)) (IntKind.wrap .u32 x21)), (IntKind.wrap .i64 (x16 + 1)), ())))))
 (K a5 0)
def ip_Parse_q (s0 : List UInt8) (K : Int → Int → Prop) : Prop :=
 (WfPs strings_Split_ps (s0, ([46] : List UInt8), ()) →
 strings_Split_q s0 ([46] : List UInt8) (fun x10 =>
 WfPs strings_Split_rs (x10, ()) →
 IfB (((x10.length : Int) : Int) != 4)
 (K 0 2)
 (LoopJ (Int × Int × Unit) ((0 : Int), (0 : Int), ()) fun y next =>
 WfY pl_ip_Parse_6.kinds y →
 ip_Parse_l6 x10 y.1 y.2.1 next K)))
noncomputable def tab_ip_Parse : Tab := ⟨[(f_strings_Split, ct_strings_Split), (f_ip_octet, ct_ip_octet)], []⟩
theorem ip_Parse_eq : (fun (x : PkTs ip_Parse_ps) (K : PkTs ip_Parse_rs → Prop) => ip_Parse_q x.1 (fun r0 r1 => K (r0, r1, ()))) = fun x K => PCode Tryd.prog tab_ip_Parse plan_ip_Parse (bodyOf Tryd.f24) (parS ip_Parse_ps x) (PRet Tryd.prog Tryd.f24.results.toList fun a st => outP ip_Parse_rs st a K) := by kernel_rfl
theorem ip_Parse_fq : FnQ Tryd.prog f_ip_Parse ip_Parse_ps ip_Parse_rs (fun x K => ip_Parse_q x.1 (fun r0 r1 => K (r0, r1, ()))) := (fnQ_of k_ip_Parse (tab := tab_ip_Parse) ⟨⟨ct_strings_Split_ok, ct_ip_octet_ok, trivial⟩, trivial⟩ rfl).of_eq ip_Parse_eq
noncomputable def ct_ip_Parse : Ct := ctRd ip_Parse_ps ip_Parse_rs (fun x K => ip_Parse_q x.1 (fun r0 r1 => K (r0, r1, ())))
theorem ct_ip_Parse_ok : SoundCt Tryd.prog f_ip_Parse ct_ip_Parse := ctRd_sound ip_Parse_fq
def plan_lex_read : PPlan := ⟨[(11, [0, 1, 2, 3, 4, 5, 6, 7], [47])], [], [], [(11, [4])], [], []⟩
theorem k_lex_read : Known Tryd.prog f_lex_read Tryd.f13 plan_lex_read.plan (bodyOf Tryd.f13) := ⟨Tryd.func13, by kernel_rfl, by kernel_rfl, by kernel_rfl, by kernel_rfl, by kernel_rfl⟩
abbrev lex_read_ps : List Pk := [Pk.str]
abbrev lex_read_rs : List Pk := [Pk.agg [Kd.int .i64, Kd.str, Kd.int .i64, Kd.int .u32, Kd.int .i64, Kd.int .i64], Pk.bool]
def lex_read_j0 (s0 : List UInt8) (j6 : Int) (j8 : Int) (j9 : Int) (j10 : Int) (j12 : Bool) (K : (Int × List UInt8 × Int × UInt32 × Int × Int) → Bool → Prop) : Prop :=
 K (j6, s0, j8, (ofI .u32 j9), j10, 0) j12
def lex_read_q (s0 : List UInt8) (K : (Int × List UInt8 × Int × UInt32 × Int × Int) → Bool → Prop) : Prop :=
 (WfPs strings_Trim_ps (s0, ([48, 49, 50, 51, 52, 53, 54, 55, 56, 57] : List UInt8), ()) →
 strings_Trim_q s0 ([48, 49, 50, 51, 52, 53, 54, 55, 56, 57] : List UInt8) (fun x14 =>
 WfPs strings_Trim_rs (x14, ()) →
 IfB (x14 == ([] : List UInt8))
 ((WfPs lex_whole_ps (s0, (4294967295 : Int), ()) →
 lex_whole_q s0 (4294967295 : Int) (fun x35r0 x35r1 =>
 WfPs lex_whole_rs (x35r0, x35r1, ()) →
 lex_read_j0 s0 2 x35r0 0 0 x35r1 K)))
 ((WfPs strings_Contains_ps (s0, ([47] : List UInt8), ()) →
 strings_Contains_q s0 ([47] : List UInt8) (fun x41 =>
 WfPs strings_Contains_rs (x41, ()) →
 IfB x41
 ((WfPs upd_Parse_ps (s0, ()) →
 upd_Parse_q s0 (fun x44r0 x44r1 =>
 WfPs upd_Parse_rs (x44r0, x44r1, ()) →
 lex_read_j0 s0 4 0 (x44r0.1.toNat : Int) x44r0.2 ((x44r1 : Int) == 0) K)))
 ((WfPs strings_Contains_ps (s0, ([58] : List UInt8), ()) →
 strings_Contains_q s0 ([58] : List UInt8) (fun x54 =>
 WfPs strings_Contains_rs (x54, ()) →
 IfB x54
 ((WfPs lex_halves_ps (s0, ()) →
 lex_halves_q s0 (fun x58r0 x58r1 =>
 WfPs lex_halves_rs (x58r0, x58r1, ()) →
 lex_read_j0 s0 5 x58r0 0 0 x58r1 K)))
 ((WfPs strings_Trim_ps (s0, ([48, 49, 50, 51, 52, 53, 54, 55, 56, 57, 46] : List UInt8), ()) →
 strings_Trim_q s0 ([48, 49, 50, 51, 52, 53, 54, 55, 56, 57, 46] : List UInt8) (fun x64 =>
 WfPs strings_Trim_rs (x64, ()) →
 IfB (x64 == ([] : List UInt8))
 ((WfPs ip_Parse_ps (s0, ()) →
 ip_Parse_q s0 (fun x68r0 x68r1 =>
 WfPs ip_Parse_rs (x68r0, x68r1, ()) →
 lex_read_j0 s0 3 (IntKind.wrap .i64 x68r0) 0 0 ((x68r1 : Int) == 0) K)))
 ((0 : Int) ≤ 0 ∧ AtN s0 0 fun x17 =>
 (WfPs lex_letter_ps ((x17.toNat : Int), ()) →
 lex_letter_q (x17.toNat : Int) (fun x18 =>
 WfPs lex_letter_rs (x18, ()) →
 IfB x18
 (IfB (decide (((s0.length : Int) : Int) ≤ 32))
 ((WfPs strings_Contains_ps (s0, ([46] : List UInt8), ()) →
 strings_Contains_q s0 ([46] : List UInt8) (fun x26 =>
 WfPs strings_Contains_rs (x26, ()) →
 lex_read_j0 s0 1 0 0 0 (!x26) K)))
 (lex_read_j0 s0 1 0 0 0 false K))
 (lex_read_j0 s0 1 0 0 0 false K)))))))))))))))
noncomputable def tab_lex_read : Tab := ⟨[(f_lex_letter, ct_lex_letter), (f_strings_Trim, ct_strings_Trim), (f_lex_whole, ct_lex_whole), (f_strings_Contains, ct_strings_Contains), (f_upd_Parse, ct_upd_Parse), (f_lex_halves, ct_lex_halves), (f_ip_Parse, ct_ip_Parse)], []⟩
theorem lex_read_eq : (fun (x : PkTs lex_read_ps) (K : PkTs lex_read_rs → Prop) => lex_read_q x.1 (fun r0 r1 => K (r0, r1, ()))) = fun x K => PCode Tryd.prog tab_lex_read plan_lex_read (bodyOf Tryd.f13) (parS lex_read_ps x) (PRet Tryd.prog Tryd.f13.results.toList fun a st => outP lex_read_rs st a K) := by kernel_rfl
theorem lex_read_fq : FnQ Tryd.prog f_lex_read lex_read_ps lex_read_rs (fun x K => lex_read_q x.1 (fun r0 r1 => K (r0, r1, ()))) := (fnQ_of k_lex_read (tab := tab_lex_read) ⟨⟨ct_lex_letter_ok, ct_strings_Trim_ok, ct_lex_whole_ok, ct_strings_Contains_ok, ct_upd_Parse_ok, ct_lex_halves_ok, ct_ip_Parse_ok, trivial⟩, trivial⟩ rfl).of_eq lex_read_eq
noncomputable def ct_lex_read : Ct := ctVal lex_read_ps lex_read_rs (fun x K => lex_read_q x.1 (fun r0 r1 => K (r0, r1, ())))
theorem ct_lex_read_ok : SoundCt Tryd.prog f_lex_read ct_lex_read := ctVal_sound lex_read_fq
def pl_lex_Split_16 : PLoop := ⟨[(7, PK.int .i64)], [0, 5, 6, 8, 9], []⟩
def pl_lex_Split_23 : PLoop := ⟨[(9, PK.int .i64)], [0, 5, 6, 7, 8], []⟩
def pl_lex_Split_2000000 : PLoop := ⟨[(5, PK.row T_api_Token [Kd.int .i64, Kd.str, Kd.int .i64, Kd.int .u32, Kd.int .i64, Kd.int .i64]), (7, PK.int .i64), (8, PK.int .i64), (9, PK.int .i64)], [0, 6], [(6, [PK.int .i64, PK.str, PK.int .i64, PK.int .u32, PK.int .i64, PK.int .i64])]⟩
def plan_lex_Split : PPlan := ⟨[], [(16, pl_lex_Split_16), (23, pl_lex_Split_23), (2000000, pl_lex_Split_2000000)], [], [], [], []⟩
theorem k_lex_Split : Known Tryd.prog f_lex_Split Tryd.f6 plan_lex_Split.plan (bodyOf Tryd.f6) := ⟨Tryd.func6, by kernel_rfl, by kernel_rfl, by kernel_rfl, by kernel_rfl, by kernel_rfl⟩
abbrev lex_Split_ps : List Pk := [Pk.str]
abbrev lex_Split_rs : List Pk := [Pk.own T_api_Token [Kd.int .i64, Kd.str, Kd.int .i64, Kd.int .u32, Kd.int .i64, Kd.int .i64], Pk.int .i64, Pk.int .i64]
def lex_Split_j2 (line8 : Int) (next2000000 : (List (Int × List UInt8 × Int × UInt32 × Int × Int) × Int × Int × Int × Int × List UInt8 × Int × Int × Int × Int × Unit) → Prop) (K : List (Int × List UInt8 × Int × UInt32 × Int × Int) → Int → Int → Prop) : Prop :=
 K ([] : List (Int × List UInt8 × Int × UInt32 × Int × Int)) line8 240
def lex_Split_j1 (text0 : List UInt8) (l5 : List (Int × List UInt8 × Int × UInt32 × Int × Int)) (c0 : Int) (c1 : List UInt8) (c2 : Int) (c3 : Int) (c4 : Int) (c5 : Int) (at7_1 : Int) (line8 : Int) (end9 : Int) (next2000000 : (List (Int × List UInt8 × Int × UInt32 × Int × Int) × Int × Int × Int × Int × List UInt8 × Int × Int × Int × Int × Unit) → Prop) (next16 : (Int × Unit) → Prop) (j11 : Bool) (K : List (Int × List UInt8 × Int × UInt32 × Int × Int) → Int → Int → Prop) : Prop :=
 IfB j11
 ((0 : Int) ≤ at7_1 ∧ AtN text0 at7_1.toNat fun x54 =>
 (WfPs lex_may_ps ((x54.toNat : Int), ()) →
 lex_may_q (x54.toNat : Int) (fun x55 =>
 WfPs lex_may_rs (x55, ()) →
 IfB (!x55)
 (lex_Split_j2 line8 next2000000 K)
 (next16 ((IntKind.wrap .i64 (at7_1 + 1)), ())))))
 (next2000000 (l5, at7_1, line8, end9, c0, c1, c2, c3, c4, c5, ()))
def lex_Split_l16 (text0 : List UInt8) (l5 : List (Int × List UInt8 × Int × UInt32 × Int × Int)) (c0 : Int) (c1 : List UInt8) (c2 : Int) (c3 : Int) (c4 : Int) (c5 : Int) (line8 : Int) (end9 : Int) (next2000000 : (List (Int × List UInt8 × Int × UInt32 × Int × Int) × Int × Int × Int × Int × List UInt8 × Int × Int × Int × Int × Unit) → Prop) (at7_1 : Int) (next16 : (Int × Unit) → Prop) (K : List (Int × List UInt8 × Int × UInt32 × Int × Int) → Int → Int → Prop) : Prop :=
 IfB (decide ((at7_1 : Int) < (text0.length : Int)))
 ((0 : Int) ≤ at7_1 ∧ AtN text0 at7_1.toNat fun x49 =>
 lex_Split_j1 text0 l5 c0 c1 c2 c3 c4 c5 at7_1 line8 end9 next2000000 next16 (((x49.toNat : Int) : Int) != 10) K)
 (lex_Split_j1 text0 l5 c0 c1 c2 c3 c4 c5 at7_1 line8 end9 next2000000 next16 false K)
def lex_Split_j4 (text0 : List UInt8) (l5 : List (Int × List UInt8 × Int × UInt32 × Int × Int)) (j2 : Int) (j3 : List UInt8) (j4 : Int) (j5 : Int) (j6 : Int) (j7 : Int) (line8 : Int) (j9 : Int) (j10 : Bool) (next2000000 : (List (Int × List UInt8 × Int × UInt32 × Int × Int) × Int × Int × Int × Int × List UInt8 × Int × Int × Int × Int × Unit) → Prop) (K : List (Int × List UInt8 × Int × UInt32 × Int × Int) → Int → Int → Prop) : Prop :=
 IfB (!j10)
 (lex_Split_j2 line8 next2000000 K)
 (IfB (((l5.length : Int) : Int) == 4096)
 (K ([] : List (Int × List UInt8 × Int × UInt32 × Int × Int)) line8 3)
 (l5.length + ([(j2, j3, j4, (ofI .u32 j5), j6, line8)] : List (Int × List UInt8 × Int × UInt32 × Int × Int)).length ≤ 2513169434820 ∧
 next2000000 ((l5 ++ ([(j2, j3, j4, (ofI .u32 j5), j6, line8)] : List (Int × List UInt8 × Int × UInt32 × Int × Int))), j9, line8, j9, j2, j3, j4, j5, j6, line8, ())))
def lex_Split_j3 (text0 : List UInt8) (l5 : List (Int × List UInt8 × Int × UInt32 × Int × Int)) (line8 : Int) (next2000000 : (List (Int × List UInt8 × Int × UInt32 × Int × Int) × Int × Int × Int × Int × List UInt8 × Int × Int × Int × Int × Unit) → Prop) (j2 : Int) (j3 : List UInt8) (j4 : Int) (j5 : Int) (j6 : Int) (j7 : Int) (j9 : Int) (j10 : Bool) (K : List (Int × List UInt8 × Int × UInt32 × Int × Int) → Int → Int → Prop) : Prop :=
 lex_Split_j4 text0 l5 j2 j3 j4 j5 j6 j7 line8 j9 j10 next2000000 K
def lex_Split_j5 (text0 : List UInt8) (l5 : List (Int × List UInt8 × Int × UInt32 × Int × Int)) (c0 : Int) (c1 : List UInt8) (c2 : Int) (c3 : Int) (c4 : Int) (c5 : Int) (at7 : Int) (line8 : Int) (end9_1 : Int) (next2000000 : (List (Int × List UInt8 × Int × UInt32 × Int × Int) × Int × Int × Int × Int × List UInt8 × Int × Int × Int × Int × Unit) → Prop) (next23 : (Int × Unit) → Prop) (j11_1 : Bool) (K : List (Int × List UInt8 × Int × UInt32 × Int × Int) → Int → Int → Prop) : Prop :=
 IfB j11_1
 (next23 ((IntKind.wrap .i64 (end9_1 + 1)), ()))
 ((0 : Int) ≤ end9_1 ∧ end9_1 ≤ (text0.length : Int) ∧
 (0 : Int) ≤ at7 ∧ at7 ≤ (end9_1.toNat : Int) ∧
 (WfPs lex_read_ps (((text0.take end9_1.toNat).drop at7.toNat), ()) →
 lex_read_q ((text0.take end9_1.toNat).drop at7.toNat) (fun x92r0 x92r1 =>
 WfPs lex_read_rs (x92r0, x92r1, ()) →
 lex_Split_j3 text0 l5 line8 next2000000 x92r0.1 x92r0.2.1 x92r0.2.2.1 (x92r0.2.2.2.1.toNat : Int) x92r0.2.2.2.2.1 x92r0.2.2.2.2.2 end9_1 x92r1 K)))
def lex_Split_l23 (text0 : List UInt8) (l5 : List (Int × List UInt8 × Int × UInt32 × Int × Int)) (c0 : Int) (c1 : List UInt8) (c2 : Int) (c3 : Int) (c4 : Int) (c5 : Int) (at7 : Int) (line8 : Int) (next2000000 : (List (Int × List UInt8 × Int × UInt32 × Int × Int) × Int × Int × Int × Int × List UInt8 × Int × Int × Int × Int × Unit) → Prop) (end9_1 : Int) (next23 : (Int × Unit) → Prop) (K : List (Int × List UInt8 × Int × UInt32 × Int × Int) → Int → Int → Prop) : Prop :=
 IfB (decide ((end9_1 : Int) < (text0.length : Int)))
 ((0 : Int) ≤ end9_1 ∧ AtN text0 end9_1.toNat fun x82 =>
 (WfPs lex_part_ps ((x82.toNat : Int), ()) →
 lex_part_q (x82.toNat : Int) (fun x83 =>
 WfPs lex_part_rs (x83, ()) →
 lex_Split_j5 text0 l5 c0 c1 c2 c3 c4 c5 at7 line8 end9_1 next2000000 next23 x83 K)))
 (lex_Split_j5 text0 l5 c0 c1 c2 c3 c4 c5 at7 line8 end9_1 next2000000 next23 false K)
def lex_Split_j0 (text0 : List UInt8) (l5 : List (Int × List UInt8 × Int × UInt32 × Int × Int)) (c0 : Int) (c1 : List UInt8) (c2 : Int) (c3 : Int) (c4 : Int) (c5 : Int) (at7 : Int) (line8 : Int) (end9 : Int) (x22 : UInt8) (next2000000 : (List (Int × List UInt8 × Int × UInt32 × Int × Int) × Int × Int × Int × Int × List UInt8 × Int × Int × Int × Int × Unit) → Prop) (j12 : Bool) (K : List (Int × List UInt8 × Int × UInt32 × Int × Int) → Int → Int → Prop) : Prop :=
 IfB j12
 (next2000000 (l5, (IntKind.wrap .i64 (at7 + 1)), line8, end9, c0, c1, c2, c3, c4, c5, ()))
 (IfB (((x22.toNat : Int) : Int) == 35)
 (LoopJ (Int × Unit) (at7, ()) fun y next =>
 WfY pl_lex_Split_16.kinds y →
 lex_Split_l16 text0 l5 c0 c1 c2 c3 c4 c5 line8 end9 next2000000 y.1 next K)
 ((WfPs strings_IndexByte_ps (([123, 125, 40, 41, 59] : List UInt8), (x22.toNat : Int), ()) →
 strings_IndexByte_q ([123, 125, 40, 41, 59] : List UInt8) (x22.toNat : Int) (fun x61 =>
 WfPs strings_IndexByte_rs (x61, ()) →
 IfB (decide ((x61 : Int) ≥ 0))
 ((0 : Int) ≤ (IntKind.wrap .i64 (at7 + 1)) ∧ (IntKind.wrap .i64 (at7 + 1)) ≤ (text0.length : Int) ∧
 (0 : Int) ≤ at7 ∧ at7 ≤ ((IntKind.wrap .i64 (at7 + 1)).toNat : Int) ∧
 lex_Split_j3 text0 l5 line8 next2000000 6 ((text0.take ((IntKind.wrap .i64 (at7 + 1)).toNat)).drop at7.toNat) 0 0 0 0 (IntKind.wrap .i64 (at7 + 1)) true K)
 ((WfPs lex_part_ps ((x22.toNat : Int), ()) →
 lex_part_q (x22.toNat : Int) (fun x73 =>
 WfPs lex_part_rs (x73, ()) →
 IfB x73
 (LoopJ (Int × Unit) (at7, ()) fun y next =>
 WfY pl_lex_Split_23.kinds y →
 lex_Split_l23 text0 l5 c0 c1 c2 c3 c4 c5 at7 line8 next2000000 y.1 next K)
 (lex_Split_j3 text0 l5 line8 next2000000 c0 c1 c2 c3 c4 c5 end9 false K))))))))
def lex_Split_l2000000 (text0 : List UInt8) (l5 : List (Int × List UInt8 × Int × UInt32 × Int × Int)) (at7 : Int) (line8 : Int) (end9 : Int) (c0 : Int) (c1 : List UInt8) (c2 : Int) (c3 : Int) (c4 : Int) (c5 : Int) (next2000000 : (List (Int × List UInt8 × Int × UInt32 × Int × Int) × Int × Int × Int × Int × List UInt8 × Int × Int × Int × Int × Unit) → Prop) (K : List (Int × List UInt8 × Int × UInt32 × Int × Int) → Int → Int → Prop) : Prop :=
 IfB ((at7 : Int) == (text0.length : Int))
 (K l5 0 0)
 ((0 : Int) ≤ at7 ∧ AtN text0 at7.toNat fun x22 =>
 IfB (((x22.toNat : Int) : Int) == 10)
 (next2000000 (l5, (IntKind.wrap .i64 (at7 + 1)), (IntKind.wrap .i64 (line8 + 1)), end9, c0, c1, c2, c3, c4, c5, ()))
 (IfB (((x22.toNat : Int) : Int) == 32)
 (lex_Split_j0 text0 l5 c0 c1 c2 c3 c4 c5 at7 line8 end9 x22 next2000000 true K)
 (lex_Split_j0 text0 l5 c0 c1 c2 c3 c4 c5 at7 line8 end9 x22 next2000000 (((x22.toNat : Int) : Int) == 9) K)))
def lex_Split_q (text0 : List UInt8) (K : List (Int × List UInt8 × Int × UInt32 × Int × Int) → Int → Int → Prop) : Prop :=
 IfB (decide (((text0.length : Int) : Int) > 65536))
 (K ([] : List (Int × List UInt8 × Int × UInt32 × Int × Int)) 0 3)
 (LoopJ (List (Int × List UInt8 × Int × UInt32 × Int × Int) × Int × Int × Int × Int × List UInt8 × Int × Int × Int × Int × Unit) (([] : List (Int × List UInt8 × Int × UInt32 × Int × Int)), (0 : Int), (1 : Int), (0 : Int), (0 : Int), ([] : List UInt8), (0 : Int), (0 : Int), (0 : Int), (0 : Int), ()) fun y next =>
 WfY pl_lex_Split_2000000.kinds y →
 lex_Split_l2000000 text0 y.1 y.2.1 y.2.2.1 y.2.2.2.1 y.2.2.2.2.1 y.2.2.2.2.2.1 y.2.2.2.2.2.2.1 y.2.2.2.2.2.2.2.1 y.2.2.2.2.2.2.2.2.1 y.2.2.2.2.2.2.2.2.2.1 next K)
noncomputable def tab_lex_Split : Tab := ⟨[(f_lex_may, ct_lex_may), (f_strings_IndexByte, ct_strings_IndexByte), (f_lex_part, ct_lex_part), (f_lex_read, ct_lex_read)], []⟩
theorem lex_Split_eq : (fun (x : PkTs lex_Split_ps) (K : PkTs lex_Split_rs → Prop) => lex_Split_q x.1 (fun r0 r1 r2 => K (r0, r1, r2, ()))) = fun x K => PCode Tryd.prog tab_lex_Split plan_lex_Split (bodyOf Tryd.f6) (parS lex_Split_ps x) (PRet Tryd.prog Tryd.f6.results.toList fun a st => outP lex_Split_rs st a K) := by kernel_rfl
theorem lex_Split_fq : FnQ Tryd.prog f_lex_Split lex_Split_ps lex_Split_rs (fun x K => lex_Split_q x.1 (fun r0 r1 r2 => K (r0, r1, r2, ()))) := (fnQ_of k_lex_Split (tab := tab_lex_Split) ⟨⟨ct_lex_may_ok, ct_strings_IndexByte_ok, ct_lex_part_ok, ct_lex_read_ok, trivial⟩, trivial⟩ rfl).of_eq lex_Split_eq
noncomputable def ct_lex_Split : Ct := ctVal lex_Split_ps lex_Split_rs (fun x K => lex_Split_q x.1 (fun r0 r1 r2 => K (r0, r1, r2, ())))
theorem ct_lex_Split_ok : SoundCt Tryd.prog f_lex_Split ct_lex_Split := ctVal_sound lex_Split_fq
def pl_law24_same_4 : PLoop := ⟨[(7, PK.int .i64)], [0, 1, 2], []⟩
def plan_law24_same : PPlan := ⟨[(6, [0, 1, 2, 3, 4, 5, 6, 7, 8, 9, 10, 11], [28])], [(4, pl_law24_same_4)], [], [], [], []⟩
theorem k_law24_same : Known Tryd.prog f_law24_same Tryd.f9 plan_law24_same.plan (bodyOf Tryd.f9) := ⟨Tryd.func9, by kernel_rfl, by kernel_rfl, by kernel_rfl, by kernel_rfl, by kernel_rfl⟩
abbrev law24_same_ps : List Pk := [Pk.lst [Kd.int .i64, Kd.str, Kd.int .i64, Kd.int .u32, Kd.int .i64, Kd.int .i64], Pk.lst [Kd.int .i64, Kd.str, Kd.int .i64, Kd.int .u32, Kd.int .i64, Kd.int .i64], Pk.bool]
abbrev law24_same_rs : List Pk := [Pk.bool]
def law24_same_j0 (a0 : List (Int × List UInt8 × Int × UInt32 × Int × Int)) (b1 : List (Int × List UInt8 × Int × UInt32 × Int × Int)) (lines2 : Bool) (i7 : Int) (x23 : Int × List UInt8 × Int × UInt32 × Int × Int) (x27 : Int × List UInt8 × Int × UInt32 × Int × Int) (next4 : (Int × Unit) → Prop) (j9 : Int) (j15 : Int) (K : Bool → Prop) : Prop :=
 IfB (!(((x23.1 : Int) == x27.1) && ((x23.2.1 == x27.2.1) && (((x23.2.2.1 : Int) == x27.2.2.1) && (((((x23.2.2.2.1.toNat : Int) : Int) == (x27.2.2.2.1.toNat : Int)) && (((x23.2.2.2.2.1 : Int) == x27.2.2.2.2.1) && true)) && (((j9 : Int) == j15) && true))))))
 (K false)
 (next4 ((IntKind.wrap .i64 (i7 + 1)), ()))
def law24_same_l4 (a0 : List (Int × List UInt8 × Int × UInt32 × Int × Int)) (b1 : List (Int × List UInt8 × Int × UInt32 × Int × Int)) (lines2 : Bool) (i7 : Int) (next4 : (Int × Unit) → Prop) (K : Bool → Prop) : Prop :=
 IfB (decide ((i7 : Int) < (a0.length : Int)))
 ((0 : Int) ≤ i7 ∧ AtN a0 i7.toNat fun x23 =>
 WfT ks_1 x23 →
 (0 : Int) ≤ i7 ∧ AtN b1 i7.toNat fun x27 =>
 WfT ks_1 x27 →
 IfB (!lines2)
 (law24_same_j0 a0 b1 lines2 i7 x23 x27 next4 0 0 K)
 (law24_same_j0 a0 b1 lines2 i7 x23 x27 next4 x23.2.2.2.2.2 x27.2.2.2.2.2 K))
 (K true)
def law24_same_q (a0 : List (Int × List UInt8 × Int × UInt32 × Int × Int)) (b1 : List (Int × List UInt8 × Int × UInt32 × Int × Int)) (lines2 : Bool) (K : Bool → Prop) : Prop :=
 IfB (((a0.length : Int) : Int) != (b1.length : Int))
 (K false)
 (LoopJ (Int × Unit) ((0 : Int), ()) fun y next =>
 WfY pl_law24_same_4.kinds y →
 law24_same_l4 a0 b1 lines2 y.1 next K)
noncomputable def tab_law24_same : Tab := ⟨[], []⟩
theorem law24_same_eq : (fun (x : PkTs law24_same_ps) (K : PkTs law24_same_rs → Prop) => law24_same_q x.1 x.2.1 x.2.2.1 (fun r0 => K (r0, ()))) = fun x K => PCode Tryd.prog tab_law24_same plan_law24_same (bodyOf Tryd.f9) (parS law24_same_ps x) (PRet Tryd.prog Tryd.f9.results.toList fun a st => outP law24_same_rs st a K) := by kernel_rfl
theorem law24_same_fq : FnQ Tryd.prog f_law24_same law24_same_ps law24_same_rs (fun x K => law24_same_q x.1 x.2.1 x.2.2.1 (fun r0 => K (r0, ()))) := (fnQ_of k_law24_same (tab := tab_law24_same) ⟨trivial, trivial⟩ rfl).of_eq law24_same_eq
noncomputable def ct_law24_same : Ct := ctRd law24_same_ps law24_same_rs (fun x K => law24_same_q x.1 x.2.1 x.2.2.1 (fun r0 => K (r0, ())))
theorem ct_law24_same_ok : SoundCt Tryd.prog f_law24_same ct_law24_same := ctRd_sound law24_same_fq
def plan_law24_works : PPlan := ⟨[], [], [], [], [], []⟩
theorem k_law24_works : Known Tryd.prog f_law24_works Tryd.f4 plan_law24_works.plan (bodyOf Tryd.f4) := ⟨Tryd.func4, by kernel_rfl, by kernel_rfl, by kernel_rfl, by kernel_rfl, by kernel_rfl⟩
abbrev law24_works_ps : List Pk := []
abbrev law24_works_rs : List Pk := [Pk.bool]
def law24_works_q  (K : Bool → Prop) : Prop :=
 (WfPs lex_Split_ps (([112, 101, 101, 114, 32, 97, 32, 49, 48, 46, 48, 46, 48, 46, 50, 59] : List UInt8), ()) →
 lex_Split_q ([112, 101, 101, 114, 32, 97, 32, 49, 48, 46, 48, 46, 48, 46, 50, 59] : List UInt8) (fun x5r0 x5r1 x5r2 =>
 WfPs lex_Split_rs (x5r0, x5r1, x5r2, ()) →
 IfB ((x5r2 : Int) == 0)
 ((WfPs law24_same_ps (x5r0, ([(1, ([112, 101, 101, 114] : List UInt8), 0, (ofI .u32 0), 0, 0), (1, ([97] : List UInt8), 0, (ofI .u32 0), 0, 0), (3, ([49, 48, 46, 48, 46, 48, 46, 50] : List UInt8), 167772162, (ofI .u32 0), 0, 0), (6, ([59] : List UInt8), 0, (ofI .u32 0), 0, 0)] : List (Int × List UInt8 × Int × UInt32 × Int × Int)), false, ()) →
 law24_same_q x5r0 ([(1, ([112, 101, 101, 114] : List UInt8), 0, (ofI .u32 0), 0, 0), (1, ([97] : List UInt8), 0, (ofI .u32 0), 0, 0), (3, ([49, 48, 46, 48, 46, 48, 46, 50] : List UInt8), 167772162, (ofI .u32 0), 0, 0), (6, ([59] : List UInt8), 0, (ofI .u32 0), 0, 0)] : List (Int × List UInt8 × Int × UInt32 × Int × Int)) false (fun x18 =>
 WfPs law24_same_rs (x18, ()) →
 K x18)))
 (K false)))
noncomputable def tab_law24_works : Tab := ⟨[(f_lex_Split, ct_lex_Split), (f_law24_same, ct_law24_same)], []⟩
theorem law24_works_eq : (fun (x : PkTs law24_works_ps) (K : PkTs law24_works_rs → Prop) => law24_works_q  (fun r0 => K (r0, ()))) = fun x K => PCode Tryd.prog tab_law24_works plan_law24_works (bodyOf Tryd.f4) (parS law24_works_ps x) (PRet Tryd.prog Tryd.f4.results.toList fun a st => outP law24_works_rs st a K) := by kernel_rfl
theorem law24_works_fq : FnQ Tryd.prog f_law24_works law24_works_ps law24_works_rs (fun x K => law24_works_q  (fun r0 => K (r0, ()))) := (fnQ_of k_law24_works (tab := tab_law24_works) ⟨⟨ct_lex_Split_ok, ct_law24_same_ok, trivial⟩, trivial⟩ rfl).of_eq law24_works_eq
noncomputable def ct_law24_works : Ct := ctRd law24_works_ps law24_works_rs (fun x K => law24_works_q  (fun r0 => K (r0, ())))
theorem ct_law24_works_ok : SoundCt Tryd.prog f_law24_works ct_law24_works := ctRd_sound law24_works_fq
def plan_law24_short : PPlan := ⟨[], [], [], [], [], []⟩
theorem k_law24_short : Known Tryd.prog f_law24_short Tryd.f5 plan_law24_short.plan (bodyOf Tryd.f5) := ⟨Tryd.func5, by kernel_rfl, by kernel_rfl, by kernel_rfl, by kernel_rfl, by kernel_rfl⟩
abbrev law24_short_ps : List Pk := [Pk.str]
abbrev law24_short_rs : List Pk := [Pk.str]
def law24_short_q (s0 : List UInt8) (K : List UInt8 → Prop) : Prop :=
 IfB (decide (((s0.length : Int) : Int) > 65536))
 ((0 : Int) ≤ 65537 ∧ 65537 ≤ (s0.length : Int) ∧
 K (s0.take 65537))
 ((0 : Int) ≤ (min (s0.length : Int) 600) ∧ (min (s0.length : Int) 600) ≤ (s0.length : Int) ∧
 K (s0.take ((min (s0.length : Int) 600).toNat)))
noncomputable def tab_law24_short : Tab := ⟨[], []⟩
theorem law24_short_eq : (fun (x : PkTs law24_short_ps) (K : PkTs law24_short_rs → Prop) => law24_short_q x.1 (fun r0 => K (r0, ()))) = fun x K => PCode Tryd.prog tab_law24_short plan_law24_short (bodyOf Tryd.f5) (parS law24_short_ps x) (PRet Tryd.prog Tryd.f5.results.toList fun a st => outP law24_short_rs st a K) := by kernel_rfl
theorem law24_short_fq : FnQ Tryd.prog f_law24_short law24_short_ps law24_short_rs (fun x K => law24_short_q x.1 (fun r0 => K (r0, ()))) := (fnQ_of k_law24_short (tab := tab_law24_short) ⟨trivial, trivial⟩ rfl).of_eq law24_short_eq
noncomputable def ct_law24_short : Ct := ctRd law24_short_ps law24_short_rs (fun x K => law24_short_q x.1 (fun r0 => K (r0, ())))
theorem ct_law24_short_ok : SoundCt Tryd.prog f_law24_short ct_law24_short := ctRd_sound law24_short_fq
def pl_ref24_Join_3 : PLoop := ⟨[(3, PK.str), (4, PK.int .i64)], [0], []⟩
def plan_ref24_Join : PPlan := ⟨[], [(3, pl_ref24_Join_3)], [], [], [], []⟩
theorem k_ref24_Join : Known Tryd.prog f_ref24_Join Tryd.f8 plan_ref24_Join.plan (bodyOf Tryd.f8) := ⟨Tryd.func8, by kernel_rfl, by kernel_rfl, by kernel_rfl, by kernel_rfl, by kernel_rfl⟩
abbrev ref24_Join_ps : List Pk := [Pk.lst [Kd.int .i64, Kd.str, Kd.int .i64, Kd.int .u32, Kd.int .i64, Kd.int .i64]]
abbrev ref24_Join_rs : List Pk := [Pk.str]
def ref24_Join_j0 (l0 : List (Int × List UInt8 × Int × UInt32 × Int × Int)) (i4 : Int) (next3 : (List UInt8 × Int × Unit) → Prop) (j1 : List UInt8) (K : List UInt8 → Prop) : Prop :=
 (0 : Int) ≤ i4 ∧ AtN l0 i4.toNat fun x18 =>
 WfT ks_1 x18 →
 j1.length + x18.2.1.length ≤ lenMax ∧
 next3 ((j1 ++ x18.2.1), (IntKind.wrap .i64 (i4 + 1)), ())
def ref24_Join_l3 (l0 : List (Int × List UInt8 × Int × UInt32 × Int × Int)) (s3 : List UInt8) (i4 : Int) (next3 : (List UInt8 × Int × Unit) → Prop) (K : List UInt8 → Prop) : Prop :=
 IfB (decide ((i4 : Int) < (l0.length : Int)))
 (IfB (decide ((i4 : Int) > 0))
 (s3.length + ([32] : List UInt8).length ≤ lenMax ∧
 ref24_Join_j0 l0 i4 next3 (s3 ++ ([32] : List UInt8)) K)
 (ref24_Join_j0 l0 i4 next3 s3 K))
 (K s3)
def ref24_Join_q (l0 : List (Int × List UInt8 × Int × UInt32 × Int × Int)) (K : List UInt8 → Prop) : Prop :=
 LoopJ (List UInt8 × Int × Unit) (([] : List UInt8), (0 : Int), ()) fun y next =>
 WfY pl_ref24_Join_3.kinds y →
 ref24_Join_l3 l0 y.1 y.2.1 next K
noncomputable def tab_ref24_Join : Tab := ⟨[], []⟩
theorem ref24_Join_eq : (fun (x : PkTs ref24_Join_ps) (K : PkTs ref24_Join_rs → Prop) => ref24_Join_q x.1 (fun r0 => K (r0, ()))) = fun x K => PCode Tryd.prog tab_ref24_Join plan_ref24_Join (bodyOf Tryd.f8) (parS ref24_Join_ps x) (PRet Tryd.prog Tryd.f8.results.toList fun a st => outP ref24_Join_rs st a K) := by kernel_rfl
theorem ref24_Join_fq : FnQ Tryd.prog f_ref24_Join ref24_Join_ps ref24_Join_rs (fun x K => ref24_Join_q x.1 (fun r0 => K (r0, ()))) := (fnQ_of k_ref24_Join (tab := tab_ref24_Join) ⟨trivial, trivial⟩ rfl).of_eq ref24_Join_eq
noncomputable def ct_ref24_Join : Ct := ctRd ref24_Join_ps ref24_Join_rs (fun x K => ref24_Join_q x.1 (fun r0 => K (r0, ())))
theorem ct_ref24_Join_ok : SoundCt Tryd.prog f_ref24_Join ct_ref24_Join := ctRd_sound ref24_Join_fq
def pl_law24_LexJoins_12 : PLoop := ⟨[(10, PK.int .i64)], [3, 7, 9], []⟩
def plan_law24_LexJoins : PPlan := ⟨[], [(12, pl_law24_LexJoins_12)], [], [], [], []⟩
theorem k_law24_LexJoins : Known Tryd.prog f_law24_LexJoins Tryd.f3 plan_law24_LexJoins.plan (bodyOf Tryd.f3) := ⟨Tryd.func3, by kernel_rfl, by kernel_rfl, by kernel_rfl, by kernel_rfl, by kernel_rfl⟩
abbrev law24_LexJoins_ps : List Pk := [Pk.str]
abbrev law24_LexJoins_rs : List Pk := [Pk.bool]
def law24_LexJoins_l12 (x17r0 : List (Int × List UInt8 × Int × UInt32 × Int × Int)) (x29r0 : List (Int × List UInt8 × Int × UInt32 × Int × Int)) (x29r2 : Int) (i10 : Int) (next12 : (Int × Unit) → Prop) (K : Bool → Prop) : Prop :=
 IfB (decide ((i10 : Int) < (x29r0.length : Int)))
 ((0 : Int) ≤ i10 ∧ i10 < (x29r0.length : Int) ∧
 AtN x29r0 i10.toNat fun x57 =>
 WfT ks_1 x57 →
 IfB ((x57.2.2.2.2.2 : Int) != 1)
 (K false)
 (next12 ((IntKind.wrap .i64 (i10 + 1)), ())))
 (IfB ((x29r2 : Int) == 0)
 ((WfPs law24_same_ps (x17r0, x29r0, false, ()) →
 law24_same_q x17r0 x29r0 false (fun x64 =>
 WfPs law24_same_rs (x64, ()) →
 K x64)))
 (K false))
def law24_LexJoins_j0 (x17r0 : List (Int × List UInt8 × Int × UInt32 × Int × Int)) (x17r2 : Int) (x29r0 : List (Int × List UInt8 × Int × UInt32 × Int × Int)) (x29r2 : Int) (j4 : Bool) (K : Bool → Prop) : Prop :=
 IfB j4
 (IfB (((x17r0.length : Int) : Int) == 0)
 (K true)
 (K ((x17r2 : Int) == 0)))
 (LoopJ (Int × Unit) ((0 : Int), ()) fun y next =>
 WfY pl_law24_LexJoins_12.kinds y →
 law24_LexJoins_l12 x17r0 x29r0 x29r2 y.1 next K)
def law24_LexJoins_q (s0 : List UInt8) (K : Bool → Prop) : Prop :=
 (WfPs law24_works_ps (()) →
 law24_works_q  (fun x11 =>
 WfPs law24_works_rs (x11, ()) →
 IfB (!x11)
 (K false)
 ((WfPs law24_short_ps (s0, ()) →
 law24_short_q s0 (fun x14 =>
 WfPs law24_short_rs (x14, ()) →
 (WfPs lex_Split_ps (x14, ()) →
 lex_Split_q x14 (fun x17r0 x17r1 x17r2 =>
 WfPs lex_Split_rs (x17r0, x17r1, x17r2, ()) →
 (WfPs lex_Join_ps (x17r0, ()) →
 lex_Join_q x17r0 (fun x22 =>
 WfPs lex_Join_rs (x22, ()) →
 (WfPs ref24_Join_ps (x17r0, ()) →
 ref24_Join_q x17r0 (fun x25 =>
 WfPs ref24_Join_rs (x25, ()) →
 IfB (!(x22 == x25))
 (K false)
 ((WfPs lex_Split_ps (x22, ()) →
 lex_Split_q x22 (fun x29r0 x29r1 x29r2 =>
 WfPs lex_Split_rs (x29r0, x29r1, x29r2, ()) →
 IfB ((x17r2 : Int) != 0)
 (law24_LexJoins_j0 x17r0 x17r2 x29r0 x29r2 true K)
 (law24_LexJoins_j0 x17r0 x17r2 x29r0 x29r2 (decide (((x22.length : Int) : Int) > 65536)) K)))))))))))))))
noncomputable def tab_law24_LexJoins : Tab := ⟨[(f_law24_works, ct_law24_works), (f_law24_short, ct_law24_short), (f_lex_Split, ct_lex_Split), (f_lex_Join, ct_lex_Join), (f_ref24_Join, ct_ref24_Join), (f_law24_same, ct_law24_same)], []⟩
theorem law24_LexJoins_eq : (fun (x : PkTs law24_LexJoins_ps) (K : PkTs law24_LexJoins_rs → Prop) => law24_LexJoins_q x.1 (fun r0 => K (r0, ()))) = fun x K => PCode Tryd.prog tab_law24_LexJoins plan_law24_LexJoins (bodyOf Tryd.f3) (parS law24_LexJoins_ps x) (PRet Tryd.prog Tryd.f3.results.toList fun a st => outP law24_LexJoins_rs st a K) := by kernel_rfl
theorem law24_LexJoins_fq : FnQ Tryd.prog f_law24_LexJoins law24_LexJoins_ps law24_LexJoins_rs (fun x K => law24_LexJoins_q x.1 (fun r0 => K (r0, ()))) := (fnQ_of k_law24_LexJoins (tab := tab_law24_LexJoins) ⟨⟨ct_law24_works_ok, ct_law24_short_ok, ct_lex_Split_ok, ct_lex_Join_ok, ct_ref24_Join_ok, ct_law24_same_ok, trivial⟩, trivial⟩ rfl).of_eq law24_LexJoins_eq
noncomputable def ct_law24_LexJoins : Ct := ctRd law24_LexJoins_ps law24_LexJoins_rs (fun x K => law24_LexJoins_q x.1 (fun r0 => K (r0, ())))
theorem ct_law24_LexJoins_ok : SoundCt Tryd.prog f_law24_LexJoins ct_law24_LexJoins := ctRd_sound law24_LexJoins_fq
end Go.Proofs.YtcnbolonnlmlgaaDoor
