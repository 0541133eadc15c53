/-
  EACH FUNCTION OVER PLAIN DATA: printed by a program of ours over this translation.
-/
import Derived.Test.YtaeiblfdmlapoaaDoorNum
import Derived.Test.YtaeiblfdmlapoaaDoorLaidS
import Derived.Test.YtaeiblfdmlapoaaDoorLibS24
set_option maxRecDepth 100000
set_option maxHeartbeats 4000000
set_option linter.unusedVariables false
namespace Go.Proofs.YtaeiblfdmlapoaaDoor
open Go.Sh
abbrev ks_int_u8 : List Kd := [Kd.int .u8]
abbrev ks_str : List Kd := [Kd.str]
abbrev ks_2 : List Kd := [Kd.int .i64, Kd.str, Kd.int .i64, Kd.int .u32, Kd.int .i64, Kd.int .i64]
abbrev ks_int_i64 : List Kd := [Kd.int .i64]
def plan_law24_short : PPlan := ⟨[], [], [], [], [], []⟩
theorem k_law24_short : Known Tryd.prog f_law24_short Tryd.f7 plan_law24_short.plan (bodyOf Tryd.f7) := ⟨Tryd.func7, by kernel_rfl, by kernel_rfl, by kernel_rfl, by kernel_rfl, by kernel_rfl⟩
abbrev law24_short_ps : List Pk := [Pk.str]
abbrev law24_short_rs : List Pk := [Pk.str]
def law24_short_q (s0 : List UInt8) (K : List UInt8 → Prop) : Prop :=
 IfB (decide (((s0.length : Int) : Int) > 65536))
 ((0 : Int) ≤ 65537 ∧ 65537 ≤ (s0.length : Int) ∧
 K (s0.take 65537))
 ((0 : Int) ≤ (min (s0.length : Int) 600) ∧ (min (s0.length : Int) 600) ≤ (s0.length : Int) ∧
 K (s0.take ((min (s0.length : Int) 600).toNat)))
noncomputable def tab_law24_short : List (Nat × Ct) := []
theorem law24_short_eq : (fun (x : PkTs law24_short_ps) (K : PkTs law24_short_rs → Prop) => law24_short_q x.1 (fun r0 => K (r0, ()))) = fun x K => PCode Tryd.prog tab_law24_short plan_law24_short (bodyOf Tryd.f7) (parS law24_short_ps x) (PRet Tryd.prog Tryd.f7.results.toList fun a st => outP law24_short_rs st a K) := by kernel_rfl
theorem law24_short_fq : FnQ Tryd.prog f_law24_short law24_short_ps law24_short_rs (fun x K => law24_short_q x.1 (fun r0 => K (r0, ()))) := (fnQ_of k_law24_short (tab := tab_law24_short) trivial rfl).of_eq law24_short_eq
noncomputable def ct_law24_short : Ct := ctRd law24_short_ps law24_short_rs (fun x K => law24_short_q x.1 (fun r0 => K (r0, ())))
theorem ct_law24_short_ok : SoundCt Tryd.prog f_law24_short ct_law24_short := ctRd_sound law24_short_fq
def plan_lex_may : PPlan := ⟨[], [], [], [], [], []⟩
theorem k_lex_may : Known Tryd.prog f_lex_may Tryd.f15 plan_lex_may.plan (bodyOf Tryd.f15) := ⟨Tryd.func15, by kernel_rfl, by kernel_rfl, by kernel_rfl, by kernel_rfl, by kernel_rfl⟩
abbrev lex_may_ps : List Pk := [Pk.int .u8]
abbrev lex_may_rs : List Pk := [Pk.bool]
def lex_may_q (c0 : Int) (K : Bool → Prop) : Prop :=
 IfB (decide ((c0 : Int) ≥ 32))
 (IfB (decide ((c0 : Int) ≤ 126))
 (K true)
 (K ((c0 : Int) == 9)))
 (K ((c0 : Int) == 9))
noncomputable def tab_lex_may : List (Nat × Ct) := []
theorem lex_may_eq : (fun (x : PkTs lex_may_ps) (K : PkTs lex_may_rs → Prop) => lex_may_q x.1 (fun r0 => K (r0, ()))) = fun x K => PCode Tryd.prog tab_lex_may plan_lex_may (bodyOf Tryd.f15) (parS lex_may_ps x) (PRet Tryd.prog Tryd.f15.results.toList fun a st => outP lex_may_rs st a K) := by kernel_rfl
theorem lex_may_fq : FnQ Tryd.prog f_lex_may lex_may_ps lex_may_rs (fun x K => lex_may_q x.1 (fun r0 => K (r0, ()))) := (fnQ_of k_lex_may (tab := tab_lex_may) trivial rfl).of_eq lex_may_eq
noncomputable def ct_lex_may : Ct := ctRd lex_may_ps lex_may_rs (fun x K => lex_may_q x.1 (fun r0 => K (r0, ())))
theorem ct_lex_may_ok : SoundCt Tryd.prog f_lex_may ct_lex_may := ctRd_sound lex_may_fq
def plan_lex_letter : PPlan := ⟨[], [], [], [], [], []⟩
theorem k_lex_letter : Known Tryd.prog f_lex_letter Tryd.f26 plan_lex_letter.plan (bodyOf Tryd.f26) := ⟨Tryd.func26, by kernel_rfl, by kernel_rfl, by kernel_rfl, by kernel_rfl, by kernel_rfl⟩
abbrev lex_letter_ps : List Pk := [Pk.int .u8]
abbrev lex_letter_rs : List Pk := [Pk.bool]
def lex_letter_q (c0 : Int) (K : Bool → Prop) : Prop :=
 IfB (decide (((bitsOr .u8 c0 32) : Int) ≥ 97))
 (K (decide (((bitsOr .u8 c0 32) : Int) ≤ 122)))
 (K false)
noncomputable def tab_lex_letter : List (Nat × Ct) := []
theorem lex_letter_eq : (fun (x : PkTs lex_letter_ps) (K : PkTs lex_letter_rs → Prop) => lex_letter_q x.1 (fun r0 => K (r0, ()))) = fun x K => PCode Tryd.prog tab_lex_letter plan_lex_letter (bodyOf Tryd.f26) (parS lex_letter_ps x) (PRet Tryd.prog Tryd.f26.results.toList fun a st => outP lex_letter_rs st a K) := by kernel_rfl
theorem lex_letter_fq : FnQ Tryd.prog f_lex_letter lex_letter_ps lex_letter_rs (fun x K => lex_letter_q x.1 (fun r0 => K (r0, ()))) := (fnQ_of k_lex_letter (tab := tab_lex_letter) trivial rfl).of_eq lex_letter_eq
noncomputable def ct_lex_letter : Ct := ctRd lex_letter_ps lex_letter_rs (fun x K => lex_letter_q x.1 (fun r0 => K (r0, ())))
theorem ct_lex_letter_ok : SoundCt Tryd.prog f_lex_letter ct_lex_letter := ctRd_sound lex_letter_fq
def plan_lex_part : PPlan := ⟨[], [], [], [], [], []⟩
theorem k_lex_part : Known Tryd.prog f_lex_part Tryd.f17 plan_lex_part.plan (bodyOf Tryd.f17) := ⟨Tryd.func17, by kernel_rfl, by kernel_rfl, by kernel_rfl, by kernel_rfl, by kernel_rfl⟩
abbrev lex_part_ps : List Pk := [Pk.int .u8]
abbrev lex_part_rs : List Pk := [Pk.bool]
def lex_part_q (c0 : Int) (K : Bool → Prop) : Prop :=
 (WfPs lex_letter_ps (c0, ()) →
 lex_letter_q c0 (fun x4 =>
 WfPs lex_letter_rs (x4, ()) →
 IfB x4
 (K true)
 (IfB (decide ((c0 : Int) ≥ 48))
 (IfB (decide ((c0 : Int) ≤ 57))
 (K true)
 ((WfPs strings_IndexByte_ps (([95, 45, 46, 58, 47] : List UInt8), c0, ()) →
 strings_IndexByte_q ([95, 45, 46, 58, 47] : List UInt8) c0 (fun x15 =>
 WfPs strings_IndexByte_rs (x15, ()) →
 K (decide ((x15 : Int) ≥ 0))))))
 ((WfPs strings_IndexByte_ps (([95, 45, 46, 58, 47] : List UInt8), c0, ()) →
 strings_IndexByte_q ([95, 45, 46, 58, 47] : List UInt8) c0 (fun x15_1 =>
 WfPs strings_IndexByte_rs (x15_1, ()) →
 K (decide ((x15_1 : Int) ≥ 0))))))))
noncomputable def tab_lex_part : List (Nat × Ct) := [(f_strings_IndexByte, ct_strings_IndexByte), (f_lex_letter, ct_lex_letter)]
theorem lex_part_eq : (fun (x : PkTs lex_part_ps) (K : PkTs lex_part_rs → Prop) => lex_part_q x.1 (fun r0 => K (r0, ()))) = fun x K => PCode Tryd.prog tab_lex_part plan_lex_part (bodyOf Tryd.f17) (parS lex_part_ps x) (PRet Tryd.prog Tryd.f17.results.toList fun a st => outP lex_part_rs st a K) := by kernel_rfl
theorem lex_part_fq : FnQ Tryd.prog f_lex_part lex_part_ps lex_part_rs (fun x K => lex_part_q x.1 (fun r0 => K (r0, ()))) := (fnQ_of k_lex_part (tab := tab_lex_part) ⟨ct_strings_IndexByte_ok, ct_lex_letter_ok, trivial⟩ rfl).of_eq lex_part_eq
noncomputable def ct_lex_part : Ct := ctRd lex_part_ps lex_part_rs (fun x K => lex_part_q x.1 (fun r0 => K (r0, ())))
theorem ct_lex_part_ok : SoundCt Tryd.prog f_lex_part ct_lex_part := ctRd_sound lex_part_fq
def pl_strings_trimLeftByte_1 : PLoop := ⟨[(0, PK.str)], [1], none⟩
def plan_strings_trimLeftByte : PPlan := ⟨[], [(1, pl_strings_trimLeftByte_1)], [], [], [], []⟩
theorem k_strings_trimLeftByte : Known Tryd.prog f_strings_trimLeftByte Tryd.f43 plan_strings_trimLeftByte.plan (bodyOf Tryd.f43) := ⟨Tryd.func43, by kernel_rfl, by kernel_rfl, by kernel_rfl, by kernel_rfl, by kernel_rfl⟩
abbrev strings_trimLeftByte_ps : List Pk := [Pk.str, Pk.int .u8]
abbrev strings_trimLeftByte_rs : List Pk := [Pk.str]
def strings_trimLeftByte_j0 (s0_1 : List UInt8) (c1 : Int) (next1 : (List UInt8 × Unit) → Prop) (j2 : Bool) (K : List UInt8 → Prop) : Prop :=
 IfB j2
 ((0 : Int) ≤ 1 ∧ 1 ≤ (s0_1.length : Int) ∧
 next1 ((s0_1.drop 1), ()))
 (K s0_1)
def strings_trimLeftByte_l1 (c1 : Int) (s0_1 : List UInt8) (next1 : (List UInt8 × Unit) → Prop) (K : List UInt8 → Prop) : Prop :=
 IfB (decide (((s0_1.length : Int) : Int) > 0))
 ((0 : Int) ≤ 0 ∧ AtN s0_1 0 fun x10 =>
 strings_trimLeftByte_j0 s0_1 c1 next1 (((x10.toNat : Int) : Int) == c1) K)
 (strings_trimLeftByte_j0 s0_1 c1 next1 false K)
def strings_trimLeftByte_q (s0 : List UInt8) (c1 : Int) (K : List UInt8 → Prop) : Prop :=
 LoopJ (List UInt8 × Unit) (s0, ()) fun y next =>
 WfY pl_strings_trimLeftByte_1.kinds y →
 strings_trimLeftByte_l1 c1 y.1 next K
noncomputable def tab_strings_trimLeftByte : List (Nat × Ct) := []
theorem strings_trimLeftByte_eq : (fun (x : PkTs strings_trimLeftByte_ps) (K : PkTs strings_trimLeftByte_rs → Prop) => strings_trimLeftByte_q x.1 x.2.1 (fun r0 => K (r0, ()))) = fun x K => PCode Tryd.prog tab_strings_trimLeftByte plan_strings_trimLeftByte (bodyOf Tryd.f43) (parS strings_trimLeftByte_ps x) (PRet Tryd.prog Tryd.f43.results.toList fun a st => outP strings_trimLeftByte_rs st a K) := by kernel_rfl
theorem strings_trimLeftByte_fq : FnQ Tryd.prog f_strings_trimLeftByte strings_trimLeftByte_ps strings_trimLeftByte_rs (fun x K => strings_trimLeftByte_q x.1 x.2.1 (fun r0 => K (r0, ()))) := (fnQ_of k_strings_trimLeftByte (tab := tab_strings_trimLeftByte) trivial rfl).of_eq strings_trimLeftByte_eq
noncomputable def ct_strings_trimLeftByte : Ct := ctRd strings_trimLeftByte_ps strings_trimLeftByte_rs (fun x K => strings_trimLeftByte_q x.1 x.2.1 (fun r0 => K (r0, ())))
theorem ct_strings_trimLeftByte_ok : SoundCt Tryd.prog f_strings_trimLeftByte ct_strings_trimLeftByte := ctRd_sound strings_trimLeftByte_fq
def pl_strings_trimRightByte_1 : PLoop := ⟨[(0, PK.str)], [1], none⟩
def plan_strings_trimRightByte : PPlan := ⟨[], [(1, pl_strings_trimRightByte_1)], [], [], [], []⟩
theorem k_strings_trimRightByte : Known Tryd.prog f_strings_trimRightByte Tryd.f44 plan_strings_trimRightByte.plan (bodyOf Tryd.f44) := ⟨Tryd.func44, by kernel_rfl, by kernel_rfl, by kernel_rfl, by kernel_rfl, by kernel_rfl⟩
abbrev strings_trimRightByte_ps : List Pk := [Pk.str, Pk.int .u8]
abbrev strings_trimRightByte_rs : List Pk := [Pk.str]
def strings_trimRightByte_j0 (s0_1 : List UInt8) (c1 : Int) (next1 : (List UInt8 × Unit) → Prop) (j2 : Bool) (K : List UInt8 → Prop) : Prop :=
 IfB j2
 ((0 : Int) ≤ (IntKind.wrap .i64 ((s0_1.length : Int) - 1)) ∧ (IntKind.wrap .i64 ((s0_1.length : Int) - 1)) ≤ (s0_1.length : Int) ∧
 next1 ((s0_1.take ((IntKind.wrap .i64 ((s0_1.length : Int) - 1)).toNat)), ()))
 (K s0_1)
def strings_trimRightByte_l1 (c1 : Int) (s0_1 : List UInt8) (next1 : (List UInt8 × Unit) → Prop) (K : List UInt8 → Prop) : Prop :=
 IfB (decide (((s0_1.length : Int) : Int) > 0))
 ((0 : Int) ≤ (IntKind.wrap .i64 ((s0_1.length : Int) - 1)) ∧ AtN s0_1 (IntKind.wrap .i64 ((s0_1.length : Int) - 1)).toNat fun x13 =>
 strings_trimRightByte_j0 s0_1 c1 next1 (((x13.toNat : Int) : Int) == c1) K)
 (strings_trimRightByte_j0 s0_1 c1 next1 false K)
def strings_trimRightByte_q (s0 : List UInt8) (c1 : Int) (K : List UInt8 → Prop) : Prop :=
 LoopJ (List UInt8 × Unit) (s0, ()) fun y next =>
 WfY pl_strings_trimRightByte_1.kinds y →
 strings_trimRightByte_l1 c1 y.1 next K
noncomputable def tab_strings_trimRightByte : List (Nat × Ct) := []
theorem strings_trimRightByte_eq : (fun (x : PkTs strings_trimRightByte_ps) (K : PkTs strings_trimRightByte_rs → Prop) => strings_trimRightByte_q x.1 x.2.1 (fun r0 => K (r0, ()))) = fun x K => PCode Tryd.prog tab_strings_trimRightByte plan_strings_trimRightByte (bodyOf Tryd.f44) (parS strings_trimRightByte_ps x) (PRet Tryd.prog Tryd.f44.results.toList fun a st => outP strings_trimRightByte_rs st a K) := by kernel_rfl
theorem strings_trimRightByte_fq : FnQ Tryd.prog f_strings_trimRightByte strings_trimRightByte_ps strings_trimRightByte_rs (fun x K => strings_trimRightByte_q x.1 x.2.1 (fun r0 => K (r0, ()))) := (fnQ_of k_strings_trimRightByte (tab := tab_strings_trimRightByte) trivial rfl).of_eq strings_trimRightByte_eq
noncomputable def ct_strings_trimRightByte : Ct := ctRd strings_trimRightByte_ps strings_trimRightByte_rs (fun x K => strings_trimRightByte_q x.1 x.2.1 (fun r0 => K (r0, ())))
theorem ct_strings_trimRightByte_ok : SoundCt Tryd.prog f_strings_trimRightByte ct_strings_trimRightByte := ctRd_sound strings_trimRightByte_fq
def plan_internal_bytealg_Cutover : PPlan := ⟨[], [], [], [], [], []⟩
theorem k_internal_bytealg_Cutover : Known Tryd.prog f_internal_bytealg_Cutover Tryd.f82 plan_internal_bytealg_Cutover.plan (bodyOf Tryd.f82) := ⟨Tryd.func82, by kernel_rfl, by kernel_rfl, by kernel_rfl, by kernel_rfl, by kernel_rfl⟩
abbrev internal_bytealg_Cutover_ps : List Pk := [Pk.int .i64]
abbrev internal_bytealg_Cutover_rs : List Pk := [Pk.int .i64]
def internal_bytealg_Cutover_q (n0 : Int) (K : Int → Prop) : Prop :=
 (8 : Int) ≠ 0 ∧
 K (IntKind.wrap .i64 (Int.tdiv (IntKind.wrap .i64 (n0 + 16)) 8))
noncomputable def tab_internal_bytealg_Cutover : List (Nat × Ct) := []
theorem internal_bytealg_Cutover_eq : (fun (x : PkTs internal_bytealg_Cutover_ps) (K : PkTs internal_bytealg_Cutover_rs → Prop) => internal_bytealg_Cutover_q x.1 (fun r0 => K (r0, ()))) = fun x K => PCode Tryd.prog tab_internal_bytealg_Cutover plan_internal_bytealg_Cutover (bodyOf Tryd.f82) (parS internal_bytealg_Cutover_ps x) (PRet Tryd.prog Tryd.f82.results.toList fun a st => outP internal_bytealg_Cutover_rs st a K) := by kernel_rfl
theorem internal_bytealg_Cutover_fq : FnQ Tryd.prog f_internal_bytealg_Cutover internal_bytealg_Cutover_ps internal_bytealg_Cutover_rs (fun x K => internal_bytealg_Cutover_q x.1 (fun r0 => K (r0, ()))) := (fnQ_of k_internal_bytealg_Cutover (tab := tab_internal_bytealg_Cutover) trivial rfl).of_eq internal_bytealg_Cutover_eq
noncomputable def ct_internal_bytealg_Cutover : Ct := ctRd internal_bytealg_Cutover_ps internal_bytealg_Cutover_rs (fun x K => internal_bytealg_Cutover_q x.1 (fun r0 => K (r0, ())))
theorem ct_internal_bytealg_Cutover_ok : SoundCt Tryd.prog f_internal_bytealg_Cutover ct_internal_bytealg_Cutover := ctRd_sound internal_bytealg_Cutover_fq
def plan_unicode_utf8_ValidRune : PPlan := ⟨[], [], [], [], [], []⟩
theorem k_unicode_utf8_ValidRune : Known Tryd.prog f_unicode_utf8_ValidRune Tryd.f86 plan_unicode_utf8_ValidRune.plan (bodyOf Tryd.f86) := ⟨Tryd.func86, by kernel_rfl, by kernel_rfl, by kernel_rfl, by kernel_rfl, by kernel_rfl⟩
abbrev unicode_utf8_ValidRune_ps : List Pk := [Pk.int .i32]
abbrev unicode_utf8_ValidRune_rs : List Pk := [Pk.bool]
def unicode_utf8_ValidRune_j1 (j0 : Bool) (K : Bool → Prop) : Prop :=
 IfB j0
 (K true)
 (K false)
def unicode_utf8_ValidRune_j0 (r0 : Int) (j1 : Bool) (K : Bool → Prop) : Prop :=
 IfB j1
 (K true)
 (IfB (decide ((57343 : Int) < r0))
 (unicode_utf8_ValidRune_j1 (decide ((r0 : Int) ≤ 1114111)) K)
 (unicode_utf8_ValidRune_j1 false K))
def unicode_utf8_ValidRune_q (r0 : Int) (K : Bool → Prop) : Prop :=
 IfB (decide ((0 : Int) ≤ r0))
 (unicode_utf8_ValidRune_j0 r0 (decide ((r0 : Int) < 55296)) K)
 (unicode_utf8_ValidRune_j0 r0 false K)
noncomputable def tab_unicode_utf8_ValidRune : List (Nat × Ct) := []
theorem unicode_utf8_ValidRune_eq : (fun (x : PkTs unicode_utf8_ValidRune_ps) (K : PkTs unicode_utf8_ValidRune_rs → Prop) => unicode_utf8_ValidRune_q x.1 (fun r0 => K (r0, ()))) = fun x K => PCode Tryd.prog tab_unicode_utf8_ValidRune plan_unicode_utf8_ValidRune (bodyOf Tryd.f86) (parS unicode_utf8_ValidRune_ps x) (PRet Tryd.prog Tryd.f86.results.toList fun a st => outP unicode_utf8_ValidRune_rs st a K) := by kernel_rfl
theorem unicode_utf8_ValidRune_fq : FnQ Tryd.prog f_unicode_utf8_ValidRune unicode_utf8_ValidRune_ps unicode_utf8_ValidRune_rs (fun x K => unicode_utf8_ValidRune_q x.1 (fun r0 => K (r0, ()))) := (fnQ_of k_unicode_utf8_ValidRune (tab := tab_unicode_utf8_ValidRune) trivial rfl).of_eq unicode_utf8_ValidRune_eq
noncomputable def ct_unicode_utf8_ValidRune : Ct := ctRd unicode_utf8_ValidRune_ps unicode_utf8_ValidRune_rs (fun x K => unicode_utf8_ValidRune_q x.1 (fun r0 => K (r0, ())))
theorem ct_unicode_utf8_ValidRune_ok : SoundCt Tryd.prog f_unicode_utf8_ValidRune ct_unicode_utf8_ValidRune := ctRd_sound unicode_utf8_ValidRune_fq
def plan_unicode_utf8_RuneStart : PPlan := ⟨[], [], [], [], [], []⟩
theorem k_unicode_utf8_RuneStart : Known Tryd.prog f_unicode_utf8_RuneStart Tryd.f74 plan_unicode_utf8_RuneStart.plan (bodyOf Tryd.f74) := ⟨Tryd.func74, by kernel_rfl, by kernel_rfl, by kernel_rfl, by kernel_rfl, by kernel_rfl⟩
abbrev unicode_utf8_RuneStart_ps : List Pk := [Pk.int .u8]
abbrev unicode_utf8_RuneStart_rs : List Pk := [Pk.bool]
def unicode_utf8_RuneStart_q (b0 : Int) (K : Bool → Prop) : Prop :=
 K (((bitsAnd .u8 b0 192) : Int) != 128)
noncomputable def tab_unicode_utf8_RuneStart : List (Nat × Ct) := []
theorem unicode_utf8_RuneStart_eq : (fun (x : PkTs unicode_utf8_RuneStart_ps) (K : PkTs unicode_utf8_RuneStart_rs → Prop) => unicode_utf8_RuneStart_q x.1 (fun r0 => K (r0, ()))) = fun x K => PCode Tryd.prog tab_unicode_utf8_RuneStart plan_unicode_utf8_RuneStart (bodyOf Tryd.f74) (parS unicode_utf8_RuneStart_ps x) (PRet Tryd.prog Tryd.f74.results.toList fun a st => outP unicode_utf8_RuneStart_rs st a K) := by kernel_rfl
theorem unicode_utf8_RuneStart_fq : FnQ Tryd.prog f_unicode_utf8_RuneStart unicode_utf8_RuneStart_ps unicode_utf8_RuneStart_rs (fun x K => unicode_utf8_RuneStart_q x.1 (fun r0 => K (r0, ()))) := (fnQ_of k_unicode_utf8_RuneStart (tab := tab_unicode_utf8_RuneStart) trivial rfl).of_eq unicode_utf8_RuneStart_eq
noncomputable def ct_unicode_utf8_RuneStart : Ct := ctRd unicode_utf8_RuneStart_ps unicode_utf8_RuneStart_rs (fun x K => unicode_utf8_RuneStart_q x.1 (fun r0 => K (r0, ())))
theorem ct_unicode_utf8_RuneStart_ok : SoundCt Tryd.prog f_unicode_utf8_RuneStart ct_unicode_utf8_RuneStart := ctRd_sound unicode_utf8_RuneStart_fq
def plan_internal_strconv_lower : PPlan := ⟨[], [], [], [], [], []⟩
theorem k_internal_strconv_lower : Known Tryd.prog f_internal_strconv_lower Tryd.f97 plan_internal_strconv_lower.plan (bodyOf Tryd.f97) := ⟨Tryd.func97, by kernel_rfl, by kernel_rfl, by kernel_rfl, by kernel_rfl, by kernel_rfl⟩
abbrev internal_strconv_lower_ps : List Pk := [Pk.int .u8]
abbrev internal_strconv_lower_rs : List Pk := [Pk.int .u8]
def internal_strconv_lower_q (c0 : Int) (K : Int → Prop) : Prop :=
 K (bitsOr .u8 c0 32)
noncomputable def tab_internal_strconv_lower : List (Nat × Ct) := []
theorem internal_strconv_lower_eq : (fun (x : PkTs internal_strconv_lower_ps) (K : PkTs internal_strconv_lower_rs → Prop) => internal_strconv_lower_q x.1 (fun r0 => K (r0, ()))) = fun x K => PCode Tryd.prog tab_internal_strconv_lower plan_internal_strconv_lower (bodyOf Tryd.f97) (parS internal_strconv_lower_ps x) (PRet Tryd.prog Tryd.f97.results.toList fun a st => outP internal_strconv_lower_rs st a K) := by kernel_rfl
theorem internal_strconv_lower_fq : FnQ Tryd.prog f_internal_strconv_lower internal_strconv_lower_ps internal_strconv_lower_rs (fun x K => internal_strconv_lower_q x.1 (fun r0 => K (r0, ()))) := (fnQ_of k_internal_strconv_lower (tab := tab_internal_strconv_lower) trivial rfl).of_eq internal_strconv_lower_eq
noncomputable def ct_internal_strconv_lower : Ct := ctRd internal_strconv_lower_ps internal_strconv_lower_rs (fun x K => internal_strconv_lower_q x.1 (fun r0 => K (r0, ())))
theorem ct_internal_strconv_lower_ok : SoundCt Tryd.prog f_internal_strconv_lower ct_internal_strconv_lower := ctRd_sound internal_strconv_lower_fq
def pl_internal_strconv_underscoreOK_10 : PLoop := ⟨[(3, PK.int .i32), (4, PK.int .i64)], [0, 5], none⟩
def plan_internal_strconv_underscoreOK : PPlan := ⟨[], [(10, pl_internal_strconv_underscoreOK_10)], [], [], [], []⟩
theorem k_internal_strconv_underscoreOK : Known Tryd.prog f_internal_strconv_underscoreOK Tryd.f98 plan_internal_strconv_underscoreOK.plan (bodyOf Tryd.f98) := ⟨Tryd.func98, by kernel_rfl, by kernel_rfl, by kernel_rfl, by kernel_rfl, by kernel_rfl⟩
abbrev internal_strconv_underscoreOK_ps : List Pk := [Pk.str]
abbrev internal_strconv_underscoreOK_rs : List Pk := [Pk.bool]
def internal_strconv_underscoreOK_j6 (j0 : List UInt8) (i4 : Int) (j3_1 : Bool) (next10 : (Int × Int × Unit) → Prop) (j1_1 : Int) (K : Bool → Prop) : Prop :=
 next10 (j1_1, (IntKind.wrap .i64 (i4 + 1)), ())
def internal_strconv_underscoreOK_j5 (j0 : List UInt8) (saw3 : Int) (i4 : Int) (j3_1 : Bool) (next10 : (Int × Int × Unit) → Prop) (j4_1 : Bool) (K : Bool → Prop) : Prop :=
 IfB j4_1
 (internal_strconv_underscoreOK_j6 j0 i4 j3_1 next10 48 K)
 ((0 : Int) ≤ i4 ∧ AtN j0 i4.toNat fun x86 =>
 IfB (((x86.toNat : Int) : Int) == 95)
 (IfB ((saw3 : Int) != 48)
 (K false)
 (internal_strconv_underscoreOK_j6 j0 i4 j3_1 next10 95 K))
 (IfB ((saw3 : Int) == 95)
 (K false)
 (internal_strconv_underscoreOK_j6 j0 i4 j3_1 next10 33 K)))
def internal_strconv_underscoreOK_l10 (j0 : List UInt8) (j3_1 : Bool) (saw3 : Int) (i4 : Int) (next10 : (Int × Int × Unit) → Prop) (K : Bool → Prop) : Prop :=
 IfB (decide ((i4 : Int) < (j0.length : Int)))
 ((0 : Int) ≤ i4 ∧ AtN j0 i4.toNat fun x59 =>
 IfB (decide ((48 : Int) ≤ (x59.toNat : Int)))
 ((0 : Int) ≤ i4 ∧ AtN j0 i4.toNat fun x64 =>
 IfB (decide (((x64.toNat : Int) : Int) ≤ 57))
 (internal_strconv_underscoreOK_j5 j0 saw3 i4 j3_1 next10 true K)
 (IfB j3_1
 ((0 : Int) ≤ i4 ∧ AtN j0 i4.toNat fun x72 =>
 (WfPs internal_strconv_lower_ps ((x72.toNat : Int), ()) →
 internal_strconv_lower_q (x72.toNat : Int) (fun x73 =>
 WfPs internal_strconv_lower_rs (x73, ()) →
 IfB (decide ((97 : Int) ≤ x73))
 ((0 : Int) ≤ i4 ∧ AtN j0 i4.toNat fun x79 =>
 (WfPs internal_strconv_lower_ps ((x79.toNat : Int), ()) →
 internal_strconv_lower_q (x79.toNat : Int) (fun x80 =>
 WfPs internal_strconv_lower_rs (x80, ()) →
 internal_strconv_underscoreOK_j5 j0 saw3 i4 j3_1 next10 (decide ((x80 : Int) ≤ 102)) K)))
 (internal_strconv_underscoreOK_j5 j0 saw3 i4 j3_1 next10 false K))))
 (internal_strconv_underscoreOK_j5 j0 saw3 i4 j3_1 next10 false K)))
 (IfB j3_1
 ((0 : Int) ≤ i4 ∧ AtN j0 i4.toNat fun x72_1 =>
 (WfPs internal_strconv_lower_ps ((x72_1.toNat : Int), ()) →
 internal_strconv_lower_q (x72_1.toNat : Int) (fun x73_1 =>
 WfPs internal_strconv_lower_rs (x73_1, ()) →
 IfB (decide ((97 : Int) ≤ x73_1))
 ((0 : Int) ≤ i4 ∧ AtN j0 i4.toNat fun x79_1 =>
 (WfPs internal_strconv_lower_ps ((x79_1.toNat : Int), ()) →
 internal_strconv_lower_q (x79_1.toNat : Int) (fun x80_1 =>
 WfPs internal_strconv_lower_rs (x80_1, ()) →
 internal_strconv_underscoreOK_j5 j0 saw3 i4 j3_1 next10 (decide ((x80_1 : Int) ≤ 102)) K)))
 (internal_strconv_underscoreOK_j5 j0 saw3 i4 j3_1 next10 false K))))
 (internal_strconv_underscoreOK_j5 j0 saw3 i4 j3_1 next10 false K)))
 (K ((saw3 : Int) != 95))
def internal_strconv_underscoreOK_j4 (j0 : List UInt8) (j1 : Int) (j2 : Int) (j3_1 : Bool) (K : Bool → Prop) : Prop :=
 LoopJ (Int × Int × Unit) (j1, j2, ()) fun y next =>
 WfY pl_internal_strconv_underscoreOK_10.kinds y →
 internal_strconv_underscoreOK_l10 j0 j3_1 y.1 y.2.1 next K
def internal_strconv_underscoreOK_j3 (j0 : List UInt8) (K : Bool → Prop) : Prop :=
 (0 : Int) ≤ 1 ∧ AtN j0 1 fun x48 =>
 (WfPs internal_strconv_lower_ps ((x48.toNat : Int), ()) →
 internal_strconv_lower_q (x48.toNat : Int) (fun x49 =>
 WfPs internal_strconv_lower_rs (x49, ()) →
 internal_strconv_underscoreOK_j4 j0 48 2 ((x49 : Int) == 120) K))
def internal_strconv_underscoreOK_j2 (j0 : List UInt8) (j4 : Bool) (K : Bool → Prop) : Prop :=
 IfB j4
 (internal_strconv_underscoreOK_j3 j0 K)
 (internal_strconv_underscoreOK_j4 j0 94 0 false K)
def internal_strconv_underscoreOK_j1 (j0 : List UInt8) (K : Bool → Prop) : Prop :=
 IfB (decide (((j0.length : Int) : Int) ≥ 2))
 ((0 : Int) ≤ 0 ∧ AtN j0 0 fun x26 =>
 IfB (((x26.toNat : Int) : Int) == 48)
 ((0 : Int) ≤ 1 ∧ AtN j0 1 fun x31 =>
 (WfPs internal_strconv_lower_ps ((x31.toNat : Int), ()) →
 internal_strconv_lower_q (x31.toNat : Int) (fun x32 =>
 WfPs internal_strconv_lower_rs (x32, ()) →
 IfB ((x32 : Int) == 98)
 (internal_strconv_underscoreOK_j2 j0 true K)
 ((0 : Int) ≤ 1 ∧ AtN j0 1 fun x36 =>
 (WfPs internal_strconv_lower_ps ((x36.toNat : Int), ()) →
 internal_strconv_lower_q (x36.toNat : Int) (fun x37 =>
 WfPs internal_strconv_lower_rs (x37, ()) →
 IfB ((x37 : Int) == 111)
 (internal_strconv_underscoreOK_j2 j0 true K)
 ((0 : Int) ≤ 1 ∧ AtN j0 1 fun x42 =>
 (WfPs internal_strconv_lower_ps ((x42.toNat : Int), ()) →
 internal_strconv_lower_q (x42.toNat : Int) (fun x43 =>
 WfPs internal_strconv_lower_rs (x43, ()) →
 internal_strconv_underscoreOK_j2 j0 ((x43 : Int) == 120) K)))))))))
 (internal_strconv_underscoreOK_j2 j0 false K))
 (internal_strconv_underscoreOK_j2 j0 false K)
def internal_strconv_underscoreOK_j0 (s0 : List UInt8) (j3 : Bool) (K : Bool → Prop) : Prop :=
 IfB j3
 ((0 : Int) ≤ 1 ∧ 1 ≤ (s0.length : Int) ∧
 internal_strconv_underscoreOK_j1 (s0.drop 1) K)
 (internal_strconv_underscoreOK_j1 s0 K)
def internal_strconv_underscoreOK_q (s0 : List UInt8) (K : Bool → Prop) : Prop :=
 IfB (decide (((s0.length : Int) : Int) ≥ 1))
 ((0 : Int) ≤ 0 ∧ AtN s0 0 fun x11 =>
 IfB (((x11.toNat : Int) : Int) == 45)
 (internal_strconv_underscoreOK_j0 s0 true K)
 ((0 : Int) ≤ 0 ∧ AtN s0 0 fun x15 =>
 internal_strconv_underscoreOK_j0 s0 (((x15.toNat : Int) : Int) == 43) K))
 (internal_strconv_underscoreOK_j0 s0 false K)
noncomputable def tab_internal_strconv_underscoreOK : List (Nat × Ct) := [(f_internal_strconv_lower, ct_internal_strconv_lower)]
theorem internal_strconv_underscoreOK_eq : (fun (x : PkTs internal_strconv_underscoreOK_ps) (K : PkTs internal_strconv_underscoreOK_rs → Prop) => internal_strconv_underscoreOK_q x.1 (fun r0 => K (r0, ()))) = fun x K => PCode Tryd.prog tab_internal_strconv_underscoreOK plan_internal_strconv_underscoreOK (bodyOf Tryd.f98) (parS internal_strconv_underscoreOK_ps x) (PRet Tryd.prog Tryd.f98.results.toList fun a st => outP internal_strconv_underscoreOK_rs st a K) := by kernel_rfl
theorem internal_strconv_underscoreOK_fq : FnQ Tryd.prog f_internal_strconv_underscoreOK internal_strconv_underscoreOK_ps internal_strconv_underscoreOK_rs (fun x K => internal_strconv_underscoreOK_q x.1 (fun r0 => K (r0, ()))) := (fnQ_of k_internal_strconv_underscoreOK (tab := tab_internal_strconv_underscoreOK) ⟨ct_internal_strconv_lower_ok, trivial⟩ rfl).of_eq internal_strconv_underscoreOK_eq
noncomputable def ct_internal_strconv_underscoreOK : Ct := ctRd internal_strconv_underscoreOK_ps internal_strconv_underscoreOK_rs (fun x K => internal_strconv_underscoreOK_q x.1 (fun r0 => K (r0, ())))
theorem ct_internal_strconv_underscoreOK_ok : SoundCt Tryd.prog f_internal_strconv_underscoreOK ct_internal_strconv_underscoreOK := ctRd_sound internal_strconv_underscoreOK_fq
def plan_internal_strconv_small : PPlan := ⟨[], [], [], [], [], []⟩
theorem k_internal_strconv_small : Known Tryd.prog f_internal_strconv_small Tryd.f90 plan_internal_strconv_small.plan (bodyOf Tryd.f90) := ⟨Tryd.func90, by kernel_rfl, by kernel_rfl, by kernel_rfl, by kernel_rfl, by kernel_rfl⟩
abbrev internal_strconv_small_ps : List Pk := [Pk.int .i64]
abbrev internal_strconv_small_rs : List Pk := [Pk.str]
def internal_strconv_small_q (i0 : Int) (K : List UInt8 → Prop) : Prop :=
 IfB (decide ((i0 : Int) < 10))
 ((0 : Int) ≤ (IntKind.wrap .i64 (i0 + 1)) ∧ (IntKind.wrap .i64 (i0 + 1)) ≤ (([48, 49, 50, 51, 52, 53, 54, 55, 56, 57, 97, 98, 99, 100, 101, 102, 103, 104, 105, 106, 107, 108, 109, 110, 111, 112, 113, 114, 115, 116, 117, 118, 119, 120, 121, 122] : List UInt8).length : Int) ∧
 (0 : Int) ≤ i0 ∧ i0 ≤ ((IntKind.wrap .i64 (i0 + 1)).toNat : Int) ∧
 K ((([48, 49, 50, 51, 52, 53, 54, 55, 56, 57, 97, 98, 99, 100, 101, 102, 103, 104, 105, 106, 107, 108, 109, 110, 111, 112, 113, 114, 115, 116, 117, 118, 119, 120, 121, 122] : List UInt8).take ((IntKind.wrap .i64 (i0 + 1)).toNat)).drop i0.toNat))
 ((0 : Int) ≤ (IntKind.wrap .i64 ((IntKind.wrap .i64 (i0 * 2)) + 2)) ∧ (IntKind.wrap .i64 ((IntKind.wrap .i64 (i0 * 2)) + 2)) ≤ (([48, 48, 48, 49, 48, 50, 48, 51, 48, 52, 48, 53, 48, 54, 48, 55, 48, 56, 48, 57, 49, 48, 49, 49, 49, 50, 49, 51, 49, 52, 49, 53, 49, 54, 49, 55, 49, 56, 49, 57, 50, 48, 50, 49, 50, 50, 50, 51, 50, 52, 50, 53, 50, 54, 50, 55, 50, 56, 50, 57, 51, 48, 51, 49, 51, 50, 51, 51, 51, 52, 51, 53, 51, 54, 51, 55, 51, 56, 51, 57, 52, 48, 52, 49, 52, 50, 52, 51, 52, 52, 52, 53, 52, 54, 52, 55, 52, 56, 52, 57, 53, 48, 53, 49, 53, 50, 53, 51, 53, 52, 53, 53, 53, 54, 53, 55, 53, 56, 53, 57, 54, 48, 54, 49, 54, 50, 54, 51, 54, 52, 54, 53, 54, 54, 54, 55, 54, 56, 54, 57, 55, 48, 55, 49, 55, 50, 55, 51, 55, 52, 55, 53, 55, 54, 55, 55, 55, 56, 55, 57, 56, 48, 56, 49, 56, 50, 56, 51, 56, 52, 56, 53, 56, 54, 56, 55, 56, 56, 56, 57, 57, 48, 57, 49, 57, 50, 57, 51, 57, 52, 57, 53, 57, 54, 57, 55, 57, 56, 57, 57] : List UInt8).length : Int) ∧
 (0 : Int) ≤ (IntKind.wrap .i64 (i0 * 2)) ∧ (IntKind.wrap .i64 (i0 * 2)) ≤ ((IntKind.wrap .i64 ((IntKind.wrap .i64 (i0 * 2)) + 2)).toNat : Int) ∧
 K ((([48, 48, 48, 49, 48, 50, 48, 51, 48, 52, 48, 53, 48, 54, 48, 55, 48, 56, 48, 57, 49, 48, 49, 49, 49, 50, 49, 51, 49, 52, 49, 53, 49, 54, 49, 55, 49, 56, 49, 57, 50, 48, 50, 49, 50, 50, 50, 51, 50, 52, 50, 53, 50, 54, 50, 55, 50, 56, 50, 57, 51, 48, 51, 49, 51, 50, 51, 51, 51, 52, 51, 53, 51, 54, 51, 55, 51, 56, 51, 57, 52, 48, 52, 49, 52, 50, 52, 51, 52, 52, 52, 53, 52, 54, 52, 55, 52, 56, 52, 57, 53, 48, 53, 49, 53, 50, 53, 51, 53, 52, 53, 53, 53, 54, 53, 55, 53, 56, 53, 57, 54, 48, 54, 49, 54, 50, 54, 51, 54, 52, 54, 53, 54, 54, 54, 55, 54, 56, 54, 57, 55, 48, 55, 49, 55, 50, 55, 51, 55, 52, 55, 53, 55, 54, 55, 55, 55, 56, 55, 57, 56, 48, 56, 49, 56, 50, 56, 51, 56, 52, 56, 53, 56, 54, 56, 55, 56, 56, 56, 57, 57, 48, 57, 49, 57, 50, 57, 51, 57, 52, 57, 53, 57, 54, 57, 55, 57, 56, 57, 57] : List UInt8).take ((IntKind.wrap .i64 ((IntKind.wrap .i64 (i0 * 2)) + 2)).toNat)).drop ((IntKind.wrap .i64 (i0 * 2)).toNat)))
noncomputable def tab_internal_strconv_small : List (Nat × Ct) := []
theorem internal_strconv_small_eq : (fun (x : PkTs internal_strconv_small_ps) (K : PkTs internal_strconv_small_rs → Prop) => internal_strconv_small_q x.1 (fun r0 => K (r0, ()))) = fun x K => PCode Tryd.prog tab_internal_strconv_small plan_internal_strconv_small (bodyOf Tryd.f90) (parS internal_strconv_small_ps x) (PRet Tryd.prog Tryd.f90.results.toList fun a st => outP internal_strconv_small_rs st a K) := by kernel_rfl
theorem internal_strconv_small_fq : FnQ Tryd.prog f_internal_strconv_small internal_strconv_small_ps internal_strconv_small_rs (fun x K => internal_strconv_small_q x.1 (fun r0 => K (r0, ()))) := (fnQ_of k_internal_strconv_small (tab := tab_internal_strconv_small) trivial rfl).of_eq internal_strconv_small_eq
noncomputable def ct_internal_strconv_small : Ct := ctRd internal_strconv_small_ps internal_strconv_small_rs (fun x K => internal_strconv_small_q x.1 (fun r0 => K (r0, ())))
theorem ct_internal_strconv_small_ok : SoundCt Tryd.prog f_internal_strconv_small ct_internal_strconv_small := ctRd_sound internal_strconv_small_fq
def plan_internal_strconv_log10Pow2 : PPlan := ⟨[], [], [], [], [], []⟩
theorem k_internal_strconv_log10Pow2 : Known Tryd.prog f_internal_strconv_log10Pow2 Tryd.f99 plan_internal_strconv_log10Pow2.plan (bodyOf Tryd.f99) := ⟨Tryd.func99, by kernel_rfl, by kernel_rfl, by kernel_rfl, by kernel_rfl, by kernel_rfl⟩
abbrev internal_strconv_log10Pow2_ps : List Pk := [Pk.int .i64]
abbrev internal_strconv_log10Pow2_rs : List Pk := [Pk.int .i64]
def internal_strconv_log10Pow2_q (x0 : Int) (K : Int → Prop) : Prop :=
 (0 : Int) ≤ 18 ∧
 K (Int.fdiv (IntKind.wrap .i64 (x0 * 78913)) 262144)
noncomputable def tab_internal_strconv_log10Pow2 : List (Nat × Ct) := []
theorem internal_strconv_log10Pow2_eq : (fun (x : PkTs internal_strconv_log10Pow2_ps) (K : PkTs internal_strconv_log10Pow2_rs → Prop) => internal_strconv_log10Pow2_q x.1 (fun r0 => K (r0, ()))) = fun x K => PCode Tryd.prog tab_internal_strconv_log10Pow2 plan_internal_strconv_log10Pow2 (bodyOf Tryd.f99) (parS internal_strconv_log10Pow2_ps x) (PRet Tryd.prog Tryd.f99.results.toList fun a st => outP internal_strconv_log10Pow2_rs st a K) := by kernel_rfl
theorem internal_strconv_log10Pow2_fq : FnQ Tryd.prog f_internal_strconv_log10Pow2 internal_strconv_log10Pow2_ps internal_strconv_log10Pow2_rs (fun x K => internal_strconv_log10Pow2_q x.1 (fun r0 => K (r0, ()))) := (fnQ_of k_internal_strconv_log10Pow2 (tab := tab_internal_strconv_log10Pow2) trivial rfl).of_eq internal_strconv_log10Pow2_eq
noncomputable def ct_internal_strconv_log10Pow2 : Ct := ctRd internal_strconv_log10Pow2_ps internal_strconv_log10Pow2_rs (fun x K => internal_strconv_log10Pow2_q x.1 (fun r0 => K (r0, ())))
theorem ct_internal_strconv_log10Pow2_ok : SoundCt Tryd.prog f_internal_strconv_log10Pow2 ct_internal_strconv_log10Pow2 := ctRd_sound internal_strconv_log10Pow2_fq
def plan_math_bits_Len64 : PPlan := ⟨[], [], [], [], [], []⟩
theorem k_math_bits_Len64 : Known Tryd.prog f_math_bits_Len64 Tryd.f100 plan_math_bits_Len64.plan (bodyOf Tryd.f100) := ⟨Tryd.func100, by kernel_rfl, by kernel_rfl, by kernel_rfl, by kernel_rfl, by kernel_rfl⟩
abbrev math_bits_Len64_ps : List Pk := [Pk.int .u64]
abbrev math_bits_Len64_rs : List Pk := [Pk.int .i64]
def math_bits_Len64_j2 (j0_2 : Int) (j1_2 : Int) (K : Int → Prop) : Prop :=
 (0 : Int) ≤ (IntKind.wrap .u8 j0_2) ∧ AtN ([0, 1, 2, 2, 3, 3, 3, 3, 4, 4, 4, 4, 4, 4, 4, 4, 5, 5, 5, 5, 5, 5, 5, 5, 5, 5, 5, 5, 5, 5, 5, 5, 6, 6, 6, 6, 6, 6, 6, 6, 6, 6, 6, 6, 6, 6, 6, 6, 6, 6, 6, 6, 6, 6, 6, 6, 6, 6, 6, 6, 6, 6, 6, 6, 7, 7, 7, 7, 7, 7, 7, 7, 7, 7, 7, 7, 7, 7, 7, 7, 7, 7, 7, 7, 7, 7, 7, 7, 7, 7, 7, 7, 7, 7, 7, 7, 7, 7, 7, 7, 7, 7, 7, 7, 7, 7, 7, 7, 7, 7, 7, 7, 7, 7, 7, 7, 7, 7, 7, 7, 7, 7, 7, 7, 7, 7, 7, 7, 8, 8, 8, 8, 8, 8, 8, 8, 8, 8, 8, 8, 8, 8, 8, 8, 8, 8, 8, 8, 8, 8, 8, 8, 8, 8, 8, 8, 8, 8, 8, 8, 8, 8, 8, 8, 8, 8, 8, 8, 8, 8, 8, 8, 8, 8, 8, 8, 8, 8, 8, 8, 8, 8, 8, 8, 8, 8, 8, 8, 8, 8, 8, 8, 8, 8, 8, 8, 8, 8, 8, 8, 8, 8, 8, 8, 8, 8, 8, 8, 8, 8, 8, 8, 8, 8, 8, 8, 8, 8, 8, 8, 8, 8, 8, 8, 8, 8, 8, 8, 8, 8, 8, 8, 8, 8, 8, 8, 8, 8, 8, 8, 8, 8, 8, 8, 8, 8, 8, 8, 8, 8, 8, 8, 8, 8, 8, 8] : List UInt8) (IntKind.wrap .u8 j0_2).toNat fun x22 =>
 K (IntKind.wrap .i64 (j1_2 + (IntKind.wrap .i64 (x22.toNat : Int))))
def math_bits_Len64_j1 (j0_1 : Int) (j1_1 : Int) (K : Int → Prop) : Prop :=
 IfB (decide ((j0_1 : Int) ≥ 256))
 ((0 : Int) ≤ 8 ∧
 math_bits_Len64_j2 (Int.fdiv j0_1 256) (IntKind.wrap .i64 (j1_1 + 8)) K)
 (math_bits_Len64_j2 j0_1 j1_1 K)
def math_bits_Len64_j0 (j0 : Int) (j1 : Int) (K : Int → Prop) : Prop :=
 IfB (decide ((j0 : Int) ≥ 65536))
 ((0 : Int) ≤ 16 ∧
 math_bits_Len64_j1 (Int.fdiv j0 65536) (IntKind.wrap .i64 (j1 + 16)) K)
 (math_bits_Len64_j1 j0 j1 K)
def math_bits_Len64_q (x0 : Int) (K : Int → Prop) : Prop :=
 IfB (decide ((x0 : Int) ≥ 4294967296))
 ((0 : Int) ≤ 32 ∧
 math_bits_Len64_j0 (Int.fdiv x0 4294967296) 32 K)
 (math_bits_Len64_j0 x0 0 K)
noncomputable def tab_math_bits_Len64 : List (Nat × Ct) := []
theorem math_bits_Len64_eq : (fun (x : PkTs math_bits_Len64_ps) (K : PkTs math_bits_Len64_rs → Prop) => math_bits_Len64_q x.1 (fun r0 => K (r0, ()))) = fun x K => PCode Tryd.prog tab_math_bits_Len64 plan_math_bits_Len64 (bodyOf Tryd.f100) (parS math_bits_Len64_ps x) (PRet Tryd.prog Tryd.f100.results.toList fun a st => outP math_bits_Len64_rs st a K) := by kernel_rfl
theorem math_bits_Len64_fq : FnQ Tryd.prog f_math_bits_Len64 math_bits_Len64_ps math_bits_Len64_rs (fun x K => math_bits_Len64_q x.1 (fun r0 => K (r0, ()))) := (fnQ_of k_math_bits_Len64 (tab := tab_math_bits_Len64) trivial rfl).of_eq math_bits_Len64_eq
noncomputable def ct_math_bits_Len64 : Ct := ctRd math_bits_Len64_ps math_bits_Len64_rs (fun x K => math_bits_Len64_q x.1 (fun r0 => K (r0, ())))
theorem ct_math_bits_Len64_ok : SoundCt Tryd.prog f_math_bits_Len64 ct_math_bits_Len64 := ctRd_sound math_bits_Len64_fq
def plan_internal_strconv_bool2aint : PPlan := ⟨[], [], [], [], [], []⟩
theorem k_internal_strconv_bool2aint : Known Tryd.prog f_internal_strconv_bool2aint Tryd.f101 plan_internal_strconv_bool2aint.plan (bodyOf Tryd.f101) := ⟨Tryd.func101, by kernel_rfl, by kernel_rfl, by kernel_rfl, by kernel_rfl, by kernel_rfl⟩
abbrev internal_strconv_bool2aint_ps : List Pk := [Pk.bool]
abbrev internal_strconv_bool2aint_rs : List Pk := [Pk.int .i64]
def internal_strconv_bool2aint_q (b0 : Bool) (K : Int → Prop) : Prop :=
 IfB b0
 (K 1)
 (K 0)
noncomputable def tab_internal_strconv_bool2aint : List (Nat × Ct) := []
theorem internal_strconv_bool2aint_eq : (fun (x : PkTs internal_strconv_bool2aint_ps) (K : PkTs internal_strconv_bool2aint_rs → Prop) => internal_strconv_bool2aint_q x.1 (fun r0 => K (r0, ()))) = fun x K => PCode Tryd.prog tab_internal_strconv_bool2aint plan_internal_strconv_bool2aint (bodyOf Tryd.f101) (parS internal_strconv_bool2aint_ps x) (PRet Tryd.prog Tryd.f101.results.toList fun a st => outP internal_strconv_bool2aint_rs st a K) := by kernel_rfl
theorem internal_strconv_bool2aint_fq : FnQ Tryd.prog f_internal_strconv_bool2aint internal_strconv_bool2aint_ps internal_strconv_bool2aint_rs (fun x K => internal_strconv_bool2aint_q x.1 (fun r0 => K (r0, ()))) := (fnQ_of k_internal_strconv_bool2aint (tab := tab_internal_strconv_bool2aint) trivial rfl).of_eq internal_strconv_bool2aint_eq
noncomputable def ct_internal_strconv_bool2aint : Ct := ctRd internal_strconv_bool2aint_ps internal_strconv_bool2aint_rs (fun x K => internal_strconv_bool2aint_q x.1 (fun r0 => K (r0, ())))
theorem ct_internal_strconv_bool2aint_ok : SoundCt Tryd.prog f_internal_strconv_bool2aint ct_internal_strconv_bool2aint := ctRd_sound internal_strconv_bool2aint_fq
def plan_internal_strconv_isPowerOfTwo : PPlan := ⟨[], [], [], [], [], []⟩
theorem k_internal_strconv_isPowerOfTwo : Known Tryd.prog f_internal_strconv_isPowerOfTwo Tryd.f102 plan_internal_strconv_isPowerOfTwo.plan (bodyOf Tryd.f102) := ⟨Tryd.func102, by kernel_rfl, by kernel_rfl, by kernel_rfl, by kernel_rfl, by kernel_rfl⟩
abbrev internal_strconv_isPowerOfTwo_ps : List Pk := [Pk.int .i64]
abbrev internal_strconv_isPowerOfTwo_rs : List Pk := [Pk.bool]
def internal_strconv_isPowerOfTwo_q (x0 : Int) (K : Bool → Prop) : Prop :=
 K (((bitsAnd .i64 x0 (IntKind.wrap .i64 (x0 - 1))) : Int) == 0)
noncomputable def tab_internal_strconv_isPowerOfTwo : List (Nat × Ct) := []
theorem internal_strconv_isPowerOfTwo_eq : (fun (x : PkTs internal_strconv_isPowerOfTwo_ps) (K : PkTs internal_strconv_isPowerOfTwo_rs → Prop) => internal_strconv_isPowerOfTwo_q x.1 (fun r0 => K (r0, ()))) = fun x K => PCode Tryd.prog tab_internal_strconv_isPowerOfTwo plan_internal_strconv_isPowerOfTwo (bodyOf Tryd.f102) (parS internal_strconv_isPowerOfTwo_ps x) (PRet Tryd.prog Tryd.f102.results.toList fun a st => outP internal_strconv_isPowerOfTwo_rs st a K) := by kernel_rfl
theorem internal_strconv_isPowerOfTwo_fq : FnQ Tryd.prog f_internal_strconv_isPowerOfTwo internal_strconv_isPowerOfTwo_ps internal_strconv_isPowerOfTwo_rs (fun x K => internal_strconv_isPowerOfTwo_q x.1 (fun r0 => K (r0, ()))) := (fnQ_of k_internal_strconv_isPowerOfTwo (tab := tab_internal_strconv_isPowerOfTwo) trivial rfl).of_eq internal_strconv_isPowerOfTwo_eq
noncomputable def ct_internal_strconv_isPowerOfTwo : Ct := ctRd internal_strconv_isPowerOfTwo_ps internal_strconv_isPowerOfTwo_rs (fun x K => internal_strconv_isPowerOfTwo_q x.1 (fun r0 => K (r0, ())))
theorem ct_internal_strconv_isPowerOfTwo_ok : SoundCt Tryd.prog f_internal_strconv_isPowerOfTwo ct_internal_strconv_isPowerOfTwo := ctRd_sound internal_strconv_isPowerOfTwo_fq
def plan_errors_New : PPlan := ⟨[], [], [], [], [], []⟩
theorem k_errors_New : Known Tryd.prog f_errors_New Tryd.f89 plan_errors_New.plan (bodyOf Tryd.f89) := ⟨Tryd.func89, by kernel_rfl, by kernel_rfl, by kernel_rfl, by kernel_rfl, by kernel_rfl⟩
abbrev errors_New_ps : List Pk := [Pk.str]
abbrev errors_New_rs : List Pk := [Pk.err]
def errors_New_q (text0 : List UInt8) (K : Bool → Prop) : Prop :=
 K false
noncomputable def tab_errors_New : List (Nat × Ct) := []
theorem errors_New_eq : (fun (x : PkTs errors_New_ps) (K : PkTs errors_New_rs → Prop) => errors_New_q x.1 (fun r0 => K (r0, ()))) = fun x K => PCode Tryd.prog tab_errors_New plan_errors_New (bodyOf Tryd.f89) (parS errors_New_ps x) (PRet Tryd.prog Tryd.f89.results.toList fun a st => outP errors_New_rs st a K) := by kernel_rfl
theorem errors_New_fq : FnQ Tryd.prog f_errors_New errors_New_ps errors_New_rs (fun x K => errors_New_q x.1 (fun r0 => K (r0, ()))) := (fnQ_of k_errors_New (tab := tab_errors_New) trivial rfl).of_eq errors_New_eq
noncomputable def ct_errors_New : Ct := ctRd errors_New_ps errors_New_rs (fun x K => errors_New_q x.1 (fun r0 => K (r0, ())))
theorem ct_errors_New_ok : SoundCt Tryd.prog f_errors_New ct_errors_New := ctRd_sound errors_New_fq
def plan_lex_whole : PPlan := ⟨[], [], [], [], [], []⟩
theorem k_lex_whole : Known Tryd.prog f_lex_whole Tryd.f28 plan_lex_whole.plan (bodyOf Tryd.f28) := ⟨Tryd.func28, by kernel_rfl, by kernel_rfl, by kernel_rfl, by kernel_rfl, by kernel_rfl⟩
abbrev lex_whole_ps : List Pk := [Pk.str, Pk.int .i64]
abbrev lex_whole_rs : List Pk := [Pk.int .i64, Pk.bool]
def lex_whole_q (s0 : List UInt8) (most1 : Int) (K : Int → Bool → Prop) : Prop :=
 (WfPs strconv_Atoi_ps (s0, ()) →
 strconv_Atoi_q s0 (fun x10r0 x10r1 =>
 WfPs strconv_Atoi_rs (x10r0, x10r1, ()) →
 IfB x10r1
 (IfB (decide ((x10r0 : Int) ≥ 0))
 (IfB (decide ((x10r0 : Int) ≤ most1))
 ((WfPs strconv_Itoa_ps (x10r0, ()) →
 strconv_Itoa_q x10r0 (fun x27 =>
 WfPs strconv_Itoa_rs (x27, ()) →
 K x10r0 (x27 == s0))))
 (K x10r0 false))
 (K x10r0 false))
 (K x10r0 false)))
noncomputable def tab_lex_whole : List (Nat × Ct) := [(f_strconv_Atoi, ct_strconv_Atoi), (f_strconv_Itoa, ct_strconv_Itoa)]
theorem lex_whole_eq : (fun (x : PkTs lex_whole_ps) (K : PkTs lex_whole_rs → Prop) => lex_whole_q x.1 x.2.1 (fun r0 r1 => K (r0, r1, ()))) = fun x K => PCode Tryd.prog tab_lex_whole plan_lex_whole (bodyOf Tryd.f28) (parS lex_whole_ps x) (PRet Tryd.prog Tryd.f28.results.toList fun a st => outP lex_whole_rs st a K) := by kernel_rfl
theorem lex_whole_fq : FnQ Tryd.prog f_lex_whole lex_whole_ps lex_whole_rs (fun x K => lex_whole_q x.1 x.2.1 (fun r0 r1 => K (r0, r1, ()))) := (fnQ_of k_lex_whole (tab := tab_lex_whole) ⟨ct_strconv_Atoi_ok, ct_strconv_Itoa_ok, trivial⟩ rfl).of_eq lex_whole_eq
noncomputable def ct_lex_whole : Ct := ctRd lex_whole_ps lex_whole_rs (fun x K => lex_whole_q x.1 x.2.1 (fun r0 r1 => K (r0, r1, ())))
theorem ct_lex_whole_ok : SoundCt Tryd.prog f_lex_whole ct_lex_whole := ctRd_sound lex_whole_fq
def pl_internal_bytealg_hashStrastring_3 : PLoop := ⟨[(4, PK.int .u32), (5, PK.int .i64)], [0], none⟩
def pl_internal_bytealg_hashStrastring_8 : PLoop := ⟨[(6, PK.int .u32), (7, PK.int .u32), (8, PK.int .i64)], [4], none⟩
def plan_internal_bytealg_hashStrastring : PPlan := ⟨[], [(3, pl_internal_bytealg_hashStrastring_3), (8, pl_internal_bytealg_hashStrastring_8)], [], [], [], []⟩
theorem k_internal_bytealg_hashStrastring : Known Tryd.prog f_internal_bytealg_hashStrastring Tryd.f94 plan_internal_bytealg_hashStrastring.plan (bodyOf Tryd.f94) := ⟨Tryd.func94, by kernel_rfl, by kernel_rfl, by kernel_rfl, by kernel_rfl, by kernel_rfl⟩
abbrev internal_bytealg_hashStrastring_ps : List Pk := [Pk.str]
abbrev internal_bytealg_hashStrastring_rs : List Pk := [Pk.int .u32, Pk.int .u32]
def internal_bytealg_hashStrastring_j0 (hash4 : Int) (sq7 : Int) (i8 : Int) (next8 : (Int × Int × Int × Unit) → Prop) (j1 : Int) (K : Int → Int → Prop) : Prop :=
 (0 : Int) ≤ 1 ∧
 next8 (j1, (IntKind.wrap .u32 (sq7 * sq7)), (Int.fdiv i8 2), ())
def internal_bytealg_hashStrastring_l8 (hash4 : Int) (pow6 : Int) (sq7 : Int) (i8 : Int) (next8 : (Int × Int × Int × Unit) → Prop) (K : Int → Int → Prop) : Prop :=
 IfB (decide ((i8 : Int) > 0))
 (IfB (((bitsAnd .i64 i8 1) : Int) != 0)
 (internal_bytealg_hashStrastring_j0 hash4 sq7 i8 next8 (IntKind.wrap .u32 (pow6 * sq7)) K)
 (internal_bytealg_hashStrastring_j0 hash4 sq7 i8 next8 pow6 K))
 (K hash4 pow6)
def internal_bytealg_hashStrastring_l3 (sep0 : List UInt8) (hash4 : Int) (i5 : Int) (next3 : (Int × Int × Unit) → Prop) (K : Int → Int → Prop) : Prop :=
 IfB (decide ((i5 : Int) < (sep0.length : Int)))
 ((0 : Int) ≤ i5 ∧ AtN sep0 i5.toNat fun x19 =>
 next3 ((IntKind.wrap .u32 ((IntKind.wrap .u32 (hash4 * 16777619)) + (IntKind.wrap .u32 (x19.toNat : Int)))), (IntKind.wrap .i64 (i5 + 1)), ()))
 (LoopJ (Int × Int × Int × Unit) ((1 : Int), (16777619 : Int), (sep0.length : Int), ()) fun y next =>
 WfY pl_internal_bytealg_hashStrastring_8.kinds y →
 internal_bytealg_hashStrastring_l8 hash4 y.1 y.2.1 y.2.2.1 next K)
def internal_bytealg_hashStrastring_q (sep0 : List UInt8) (K : Int → Int → Prop) : Prop :=
 LoopJ (Int × Int × Unit) ((0 : Int), (0 : Int), ()) fun y next =>
 WfY pl_internal_bytealg_hashStrastring_3.kinds y →
 internal_bytealg_hashStrastring_l3 sep0 y.1 y.2.1 next K
noncomputable def tab_internal_bytealg_hashStrastring : List (Nat × Ct) := []
theorem internal_bytealg_hashStrastring_eq : (fun (x : PkTs internal_bytealg_hashStrastring_ps) (K : PkTs internal_bytealg_hashStrastring_rs → Prop) => internal_bytealg_hashStrastring_q x.1 (fun r0 r1 => K (r0, r1, ()))) = fun x K => PCode Tryd.prog tab_internal_bytealg_hashStrastring plan_internal_bytealg_hashStrastring (bodyOf Tryd.f94) (parS internal_bytealg_hashStrastring_ps x) (PRet Tryd.prog Tryd.f94.results.toList fun a st => outP internal_bytealg_hashStrastring_rs st a K) := by kernel_rfl
theorem internal_bytealg_hashStrastring_fq : FnQ Tryd.prog f_internal_bytealg_hashStrastring internal_bytealg_hashStrastring_ps internal_bytealg_hashStrastring_rs (fun x K => internal_bytealg_hashStrastring_q x.1 (fun r0 r1 => K (r0, r1, ()))) := (fnQ_of k_internal_bytealg_hashStrastring (tab := tab_internal_bytealg_hashStrastring) trivial rfl).of_eq internal_bytealg_hashStrastring_eq
noncomputable def ct_internal_bytealg_hashStrastring : Ct := ctRd internal_bytealg_hashStrastring_ps internal_bytealg_hashStrastring_rs (fun x K => internal_bytealg_hashStrastring_q x.1 (fun r0 r1 => K (r0, r1, ())))
theorem ct_internal_bytealg_hashStrastring_ok : SoundCt Tryd.prog f_internal_bytealg_hashStrastring ct_internal_bytealg_hashStrastring := ctRd_sound internal_bytealg_hashStrastring_fq
def pl_internal_bytealg_IndexRabinKarpastring_5 : PLoop := ⟨[(8, PK.int .u32), (9, PK.int .i64)], [0, 1, 5, 6, 7], none⟩
def pl_internal_bytealg_IndexRabinKarpastring_11 : PLoop := ⟨[(8, PK.int .u32), (10, PK.int .i64)], [0, 1, 5, 6, 7], none⟩
def plan_internal_bytealg_IndexRabinKarpastring : PPlan := ⟨[], [(5, pl_internal_bytealg_IndexRabinKarpastring_5), (11, pl_internal_bytealg_IndexRabinKarpastring_11)], [], [], [], []⟩
theorem k_internal_bytealg_IndexRabinKarpastring : Known Tryd.prog f_internal_bytealg_IndexRabinKarpastring Tryd.f83 plan_internal_bytealg_IndexRabinKarpastring.plan (bodyOf Tryd.f83) := ⟨Tryd.func83, by kernel_rfl, by kernel_rfl, by kernel_rfl, by kernel_rfl, by kernel_rfl⟩
abbrev internal_bytealg_IndexRabinKarpastring_ps : List Pk := [Pk.str, Pk.str]
abbrev internal_bytealg_IndexRabinKarpastring_rs : List Pk := [Pk.int .i64]
def internal_bytealg_IndexRabinKarpastring_j1 (s0 : List UInt8) (sep1 : List UInt8) (x13r0 : Int) (x13r1 : Int) (h8_1 : Int) (x50 : UInt8) (x59 : UInt8) (i10 : Int) (next11 : (Int × Int × Unit) → Prop) (j7 : Bool) (K : Int → Prop) : Prop :=
 IfB j7
 (K (IntKind.wrap .i64 ((IntKind.wrap .i64 (i10 + 1)) - (sep1.length : Int))))
 (next11 ((IntKind.wrap .u32 ((IntKind.wrap .u32 ((IntKind.wrap .u32 (h8_1 * 16777619)) + (IntKind.wrap .u32 (x50.toNat : Int)))) - (IntKind.wrap .u32 (x13r1 * (IntKind.wrap .u32 (x59.toNat : Int)))))), (IntKind.wrap .i64 (i10 + 1)), ()))
def internal_bytealg_IndexRabinKarpastring_l11 (s0 : List UInt8) (sep1 : List UInt8) (x13r0 : Int) (x13r1 : Int) (h8_1 : Int) (i10 : Int) (next11 : (Int × Int × Unit) → Prop) (K : Int → Prop) : Prop :=
 IfB (decide ((i10 : Int) < (s0.length : Int)))
 ((0 : Int) ≤ i10 ∧ AtN s0 i10.toNat fun x50 =>
 (0 : Int) ≤ (IntKind.wrap .i64 (i10 - (sep1.length : Int))) ∧ AtN s0 (IntKind.wrap .i64 (i10 - (sep1.length : Int))).toNat fun x59 =>
 IfB (((IntKind.wrap .u32 ((IntKind.wrap .u32 ((IntKind.wrap .u32 (h8_1 * 16777619)) + (IntKind.wrap .u32 (x50.toNat : Int)))) - (IntKind.wrap .u32 (x13r1 * (IntKind.wrap .u32 (x59.toNat : Int)))))) : Int) == x13r0)
 ((0 : Int) ≤ (IntKind.wrap .i64 (i10 + 1)) ∧ (IntKind.wrap .i64 (i10 + 1)) ≤ (s0.length : Int) ∧
 (0 : Int) ≤ (IntKind.wrap .i64 ((IntKind.wrap .i64 (i10 + 1)) - (sep1.length : Int))) ∧ (IntKind.wrap .i64 ((IntKind.wrap .i64 (i10 + 1)) - (sep1.length : Int))) ≤ ((IntKind.wrap .i64 (i10 + 1)).toNat : Int) ∧
 internal_bytealg_IndexRabinKarpastring_j1 s0 sep1 x13r0 x13r1 h8_1 x50 x59 i10 next11 (((s0.take ((IntKind.wrap .i64 (i10 + 1)).toNat)).drop ((IntKind.wrap .i64 ((IntKind.wrap .i64 (i10 + 1)) - (sep1.length : Int))).toNat)) == sep1) K)
 (internal_bytealg_IndexRabinKarpastring_j1 s0 sep1 x13r0 x13r1 h8_1 x50 x59 i10 next11 false K))
 (K (-1))
def internal_bytealg_IndexRabinKarpastring_j0 (s0 : List UInt8) (sep1 : List UInt8) (x13r0 : Int) (x13r1 : Int) (h8 : Int) (j6 : Bool) (K : Int → Prop) : Prop :=
 IfB j6
 (K 0)
 (LoopJ (Int × Int × Unit) (h8, (sep1.length : Int), ()) fun y next =>
 WfY pl_internal_bytealg_IndexRabinKarpastring_11.kinds y →
 internal_bytealg_IndexRabinKarpastring_l11 s0 sep1 x13r0 x13r1 y.1 y.2.1 next K)
def internal_bytealg_IndexRabinKarpastring_l5 (s0 : List UInt8) (sep1 : List UInt8) (x13r0 : Int) (x13r1 : Int) (h8 : Int) (i9 : Int) (next5 : (Int × Int × Unit) → Prop) (K : Int → Prop) : Prop :=
 IfB (decide ((i9 : Int) < (sep1.length : Int)))
 ((0 : Int) ≤ i9 ∧ AtN s0 i9.toNat fun x27 =>
 next5 ((IntKind.wrap .u32 ((IntKind.wrap .u32 (h8 * 16777619)) + (IntKind.wrap .u32 (x27.toNat : Int)))), (IntKind.wrap .i64 (i9 + 1)), ()))
 (IfB ((h8 : Int) == x13r0)
 ((0 : Int) ≤ (sep1.length : Int) ∧ (sep1.length : Int) ≤ (s0.length : Int) ∧
 internal_bytealg_IndexRabinKarpastring_j0 s0 sep1 x13r0 x13r1 h8 ((s0.take (sep1.length)) == sep1) K)
 (internal_bytealg_IndexRabinKarpastring_j0 s0 sep1 x13r0 x13r1 h8 false K))
def internal_bytealg_IndexRabinKarpastring_q (s0 : List UInt8) (sep1 : List UInt8) (K : Int → Prop) : Prop :=
 (WfPs internal_bytealg_hashStrastring_ps (sep1, ()) →
 internal_bytealg_hashStrastring_q sep1 (fun x13r0 x13r1 =>
 WfPs internal_bytealg_hashStrastring_rs (x13r0, x13r1, ()) →
 LoopJ (Int × Int × Unit) ((0 : Int), (0 : Int), ()) fun y next =>
 WfY pl_internal_bytealg_IndexRabinKarpastring_5.kinds y →
 internal_bytealg_IndexRabinKarpastring_l5 s0 sep1 x13r0 x13r1 y.1 y.2.1 next K))
noncomputable def tab_internal_bytealg_IndexRabinKarpastring : List (Nat × Ct) := [(f_internal_bytealg_hashStrastring, ct_internal_bytealg_hashStrastring)]
theorem internal_bytealg_IndexRabinKarpastring_eq : (fun (x : PkTs internal_bytealg_IndexRabinKarpastring_ps) (K : PkTs internal_bytealg_IndexRabinKarpastring_rs → Prop) => internal_bytealg_IndexRabinKarpastring_q x.1 x.2.1 (fun r0 => K (r0, ()))) = fun x K => PCode Tryd.prog tab_internal_bytealg_IndexRabinKarpastring plan_internal_bytealg_IndexRabinKarpastring (bodyOf Tryd.f83) (parS internal_bytealg_IndexRabinKarpastring_ps x) (PRet Tryd.prog Tryd.f83.results.toList fun a st => outP internal_bytealg_IndexRabinKarpastring_rs st a K) := by kernel_rfl
theorem internal_bytealg_IndexRabinKarpastring_fq : FnQ Tryd.prog f_internal_bytealg_IndexRabinKarpastring internal_bytealg_IndexRabinKarpastring_ps internal_bytealg_IndexRabinKarpastring_rs (fun x K => internal_bytealg_IndexRabinKarpastring_q x.1 x.2.1 (fun r0 => K (r0, ()))) := (fnQ_of k_internal_bytealg_IndexRabinKarpastring (tab := tab_internal_bytealg_IndexRabinKarpastring) ⟨ct_internal_bytealg_hashStrastring_ok, trivial⟩ rfl).of_eq internal_bytealg_IndexRabinKarpastring_eq
noncomputable def ct_internal_bytealg_IndexRabinKarpastring : Ct := ctRd internal_bytealg_IndexRabinKarpastring_ps internal_bytealg_IndexRabinKarpastring_rs (fun x K => internal_bytealg_IndexRabinKarpastring_q x.1 x.2.1 (fun r0 => K (r0, ())))
theorem ct_internal_bytealg_IndexRabinKarpastring_ok : SoundCt Tryd.prog f_internal_bytealg_IndexRabinKarpastring ct_internal_bytealg_IndexRabinKarpastring := ctRd_sound internal_bytealg_IndexRabinKarpastring_fq
def plan_upd_number : PPlan := ⟨[], [], [], [], [], []⟩
theorem k_upd_number : Known Tryd.prog f_upd_number Tryd.f55 plan_upd_number.plan (bodyOf Tryd.f55) := ⟨Tryd.func55, by kernel_rfl, by kernel_rfl, by kernel_rfl, by kernel_rfl, by kernel_rfl⟩
abbrev upd_number_ps : List Pk := [Pk.str]
abbrev upd_number_rs : List Pk := [Pk.int .i64]
def upd_number_j0 (x7r0 : Int) (j1 : Bool) (K : Int → Prop) : Prop :=
 IfB j1
 (K (-1))
 (K x7r0)
def upd_number_q (s0 : List UInt8) (K : Int → Prop) : Prop :=
 (WfPs strconv_Atoi_ps (s0, ()) →
 strconv_Atoi_q s0 (fun x7r0 x7r1 =>
 WfPs strconv_Atoi_rs (x7r0, x7r1, ()) →
 IfB (!x7r1)
 (upd_number_j0 x7r0 true K)
 ((WfPs strconv_Itoa_ps (x7r0, ()) →
 strconv_Itoa_q x7r0 (fun x14 =>
 WfPs strconv_Itoa_rs (x14, ()) →
 upd_number_j0 x7r0 (!(x14 == s0)) K)))))
noncomputable def tab_upd_number : List (Nat × Ct) := [(f_strconv_Atoi, ct_strconv_Atoi), (f_strconv_Itoa, ct_strconv_Itoa)]
theorem upd_number_eq : (fun (x : PkTs upd_number_ps) (K : PkTs upd_number_rs → Prop) => upd_number_q x.1 (fun r0 => K (r0, ()))) = fun x K => PCode Tryd.prog tab_upd_number plan_upd_number (bodyOf Tryd.f55) (parS upd_number_ps x) (PRet Tryd.prog Tryd.f55.results.toList fun a st => outP upd_number_rs st a K) := by kernel_rfl
theorem upd_number_fq : FnQ Tryd.prog f_upd_number upd_number_ps upd_number_rs (fun x K => upd_number_q x.1 (fun r0 => K (r0, ()))) := (fnQ_of k_upd_number (tab := tab_upd_number) ⟨ct_strconv_Atoi_ok, ct_strconv_Itoa_ok, trivial⟩ rfl).of_eq upd_number_eq
noncomputable def ct_upd_number : Ct := ctRd upd_number_ps upd_number_rs (fun x K => upd_number_q x.1 (fun r0 => K (r0, ())))
theorem ct_upd_number_ok : SoundCt Tryd.prog f_upd_number ct_upd_number := ctRd_sound upd_number_fq
def plan_upd_mask : PPlan := ⟨[], [], [], [], [], []⟩
theorem k_upd_mask : Known Tryd.prog f_upd_mask Tryd.f70 plan_upd_mask.plan (bodyOf Tryd.f70) := ⟨Tryd.func70, by kernel_rfl, by kernel_rfl, by kernel_rfl, by kernel_rfl, by kernel_rfl⟩
abbrev upd_mask_ps : List Pk := [Pk.int .u32, Pk.int .i64]
abbrev upd_mask_rs : List Pk := [Pk.int .u32]
def upd_mask_q (a0 : Int) (n1 : Int) (K : Int → Prop) : Prop :=
 (0 : Int) ≤ (IntKind.wrap .i64 (32 - n1)) ∧
 K (bitsAndNot .u32 a0 (IntKind.wrap .u32 (IntKind.wrap .u64 ((IntKind.wrap .u64 (1 * (2 ^ (min ((IntKind.wrap .i64 (32 - n1)) : Int).toNat (IntKind.bits .u64))))) - 1))))
noncomputable def tab_upd_mask : List (Nat × Ct) := []
theorem upd_mask_eq : (fun (x : PkTs upd_mask_ps) (K : PkTs upd_mask_rs → Prop) => upd_mask_q x.1 x.2.1 (fun r0 => K (r0, ()))) = fun x K => PCode Tryd.prog tab_upd_mask plan_upd_mask (bodyOf Tryd.f70) (parS upd_mask_ps x) (PRet Tryd.prog Tryd.f70.results.toList fun a st => outP upd_mask_rs st a K) := by kernel_rfl
theorem upd_mask_fq : FnQ Tryd.prog f_upd_mask upd_mask_ps upd_mask_rs (fun x K => upd_mask_q x.1 x.2.1 (fun r0 => K (r0, ()))) := (fnQ_of k_upd_mask (tab := tab_upd_mask) trivial rfl).of_eq upd_mask_eq
noncomputable def ct_upd_mask : Ct := ctRd upd_mask_ps upd_mask_rs (fun x K => upd_mask_q x.1 x.2.1 (fun r0 => K (r0, ())))
theorem ct_upd_mask_ok : SoundCt Tryd.prog f_upd_mask ct_upd_mask := ctRd_sound upd_mask_fq
def plan_upd_Right : PPlan := ⟨[(1, [0, 1, 2, 3, 4, 5, 6, 7, 8, 9, 10, 11, 12, 14, 15, 13, 16, 17, 18], [18])], [], [], [], [], []⟩
theorem k_upd_Right : Known Tryd.prog f_upd_Right Tryd.f56 plan_upd_Right.plan (bodyOf Tryd.f56) := ⟨Tryd.func56, by kernel_rfl, by kernel_rfl, by kernel_rfl, by kernel_rfl, by kernel_rfl⟩
abbrev upd_Right_ps : List Pk := [Pk.agg [Kd.int .u32, Kd.int .i64]]
abbrev upd_Right_rs : List Pk := [Pk.bool]
def upd_Right_q (p0 : UInt32 × Int) (K : Bool → Prop) : Prop :=
 IfB (decide ((p0.2 : Int) ≥ 0))
 (IfB (decide ((p0.2 : Int) ≤ 32))
 ((WfPs upd_mask_ps ((p0.1.toNat : Int), p0.2, ()) →
 upd_mask_q (p0.1.toNat : Int) p0.2 (fun x16 =>
 WfPs upd_mask_rs (x16, ()) →
 K ((x16 : Int) == (p0.1.toNat : Int)))))
 (K false))
 (K false)
noncomputable def tab_upd_Right : List (Nat × Ct) := [(f_upd_mask, ct_upd_mask)]
theorem upd_Right_eq : (fun (x : PkTs upd_Right_ps) (K : PkTs upd_Right_rs → Prop) => upd_Right_q x.1 (fun r0 => K (r0, ()))) = fun x K => PCode Tryd.prog tab_upd_Right plan_upd_Right (bodyOf Tryd.f56) (parS upd_Right_ps x) (PRet Tryd.prog Tryd.f56.results.toList fun a st => outP upd_Right_rs st a K) := by kernel_rfl
theorem upd_Right_fq : FnQ Tryd.prog f_upd_Right upd_Right_ps upd_Right_rs (fun x K => upd_Right_q x.1 (fun r0 => K (r0, ()))) := (fnQ_of k_upd_Right (tab := tab_upd_Right) ⟨ct_upd_mask_ok, trivial⟩ rfl).of_eq upd_Right_eq
noncomputable def ct_upd_Right : Ct := ctRd upd_Right_ps upd_Right_rs (fun x K => upd_Right_q x.1 (fun r0 => K (r0, ())))
theorem ct_upd_Right_ok : SoundCt Tryd.prog f_upd_Right ct_upd_Right := ctRd_sound upd_Right_fq
def pl_upd_Parse_7 : PLoop := ⟨[(32, PK.int .i64)], [2, 4, 30, 31], some (4, [PK.int .u32, PK.int .i64])⟩
def plan_upd_Parse : PPlan := ⟨[], [(7, pl_upd_Parse_7)], [], [], [], []⟩
theorem k_upd_Parse : Known Tryd.prog f_upd_Parse Tryd.f30 plan_upd_Parse.plan (bodyOf Tryd.f30) := ⟨Tryd.func30, by kernel_rfl, by kernel_rfl, by kernel_rfl, by kernel_rfl, by kernel_rfl⟩
abbrev upd_Parse_ps : List Pk := [Pk.str]
abbrev upd_Parse_rs : List Pk := [Pk.agg [Kd.int .u32, Kd.int .i64], Pk.int .i64]
def upd_Parse_j2  (K : (UInt32 × Int) → Int → Prop) : Prop :=
 K ((ofI .u32 0), 0) 5
def upd_Parse_j1 (c0 : Int) (c1 : Int) (x37 : Int) (x19 : List (List UInt8)) (x32 : Int) (next7 : (Int × Int × Int × Unit) → Prop) (j8 : Bool) (K : (UInt32 × Int) → Int → Prop) : Prop :=
 IfB j8
 (upd_Parse_j2 K)
 ((0 : Int) ≤ 8 ∧
 next7 ((IntKind.wrap .i64 (x32 + 1)), (bitsOr .u32 (IntKind.wrap .u32 (c0 * 256)) (IntKind.wrap .u32 x37)), c1, ()))
def upd_Parse_l7 (x21 : Int) (x19 : List (List UInt8)) (x32 : Int) (c0 : Int) (c1 : Int) (next7 : (Int × Int × Int × Unit) → Prop) (K : (UInt32 × Int) → Int → Prop) : Prop :=
 IfB (decide ((x32 : Int) < (x19.length : Int)))
 ((0 : Int) ≤ x32 ∧ x32 < (x19.length : Int) ∧
 AtN x19 x32.toNat fun x35 =>
 WfT ks_str x35 →
 (WfPs upd_number_ps (x35, ()) →
 upd_number_q x35 (fun x37 =>
 WfPs upd_number_rs (x37, ()) →
 IfB (decide ((x37 : Int) < 0))
 (upd_Parse_j1 c0 c1 x37 x19 x32 next7 true K)
 (upd_Parse_j1 c0 c1 x37 x19 x32 next7 (decide ((x37 : Int) > 255)) K))))
 ((WfPs upd_Right_ps ((((ofI .u32 c0), c1) : UInt32 × Int), ()) →
 upd_Right_q (((ofI .u32 c0), c1) : UInt32 × Int) (fun x53 =>
 WfPs upd_Right_rs (x53, ()) →
 IfB x53
 (K ((ofI .u32 c0), c1) 0)
 (upd_Parse_j2 K))))
def upd_Parse_j0 (x21 : Int) (x19 : List (List UInt8)) (j5 : Bool) (K : (UInt32 × Int) → Int → Prop) : Prop :=
 IfB j5
 (K ((ofI .u32 0), 0) 5)
 (LoopJ (Int × Int × Int × Unit) ((0 : Int), (0 : Int), x21, ()) fun y next =>
 WfY pl_upd_Parse_7.kinds y →
 upd_Parse_l7 x21 x19 y.1 y.2.1 y.2.2.1 next K)
def upd_Parse_q (s0 : List UInt8) (K : (UInt32 × Int) → Int → Prop) : Prop :=
 (WfPs strings_Cut_ps (s0, ([47] : List UInt8), ()) →
 strings_Cut_q s0 ([47] : List UInt8) (fun x14r0 x14r1 x14r2 =>
 WfPs strings_Cut_rs (x14r0, x14r1, x14r2, ()) →
 (WfPs strings_Split_ps (x14r0, ([46] : List UInt8), ()) →
 strings_Split_q x14r0 ([46] : List UInt8) (fun x19 =>
 WfPs strings_Split_rs (x19, ()) →
 (WfPs upd_number_ps (x14r1, ()) →
 upd_number_q x14r1 (fun x21 =>
 WfPs upd_number_rs (x21, ()) →
 IfB (!x14r2)
 (upd_Parse_j0 x21 x19 true K)
 (upd_Parse_j0 x21 x19 (((x19.length : Int) : Int) != 4) K)))))))
noncomputable def tab_upd_Parse : List (Nat × Ct) := [(f_strings_Cut, ct_strings_Cut), (f_strings_Split, ct_strings_Split), (f_upd_number, ct_upd_number), (f_upd_Right, ct_upd_Right)]
theorem upd_Parse_eq : (fun (x : PkTs upd_Parse_ps) (K : PkTs upd_Parse_rs → Prop) => upd_Parse_q x.1 (fun r0 r1 => K (r0, r1, ()))) = fun x K => PCode Tryd.prog tab_upd_Parse plan_upd_Parse (bodyOf Tryd.f30) (parS upd_Parse_ps x) (PRet Tryd.prog Tryd.f30.results.toList fun a st => outP upd_Parse_rs st a K) := by kernel_rfl
theorem upd_Parse_fq : FnQ Tryd.prog f_upd_Parse upd_Parse_ps upd_Parse_rs (fun x K => upd_Parse_q x.1 (fun r0 r1 => K (r0, r1, ()))) := (fnQ_of k_upd_Parse (tab := tab_upd_Parse) ⟨ct_strings_Cut_ok, ct_strings_Split_ok, ct_upd_number_ok, ct_upd_Right_ok, trivial⟩ rfl).of_eq upd_Parse_eq
noncomputable def ct_upd_Parse : Ct := ctVal upd_Parse_ps upd_Parse_rs (fun x K => upd_Parse_q x.1 (fun r0 r1 => K (r0, r1, ())))
theorem ct_upd_Parse_ok : SoundCt Tryd.prog f_upd_Parse ct_upd_Parse := ctVal_sound upd_Parse_fq
def plan_lex_halves : PPlan := ⟨[], [], [], [], [], []⟩
theorem k_lex_halves : Known Tryd.prog f_lex_halves Tryd.f31 plan_lex_halves.plan (bodyOf Tryd.f31) := ⟨Tryd.func31, by kernel_rfl, by kernel_rfl, by kernel_rfl, by kernel_rfl, by kernel_rfl⟩
abbrev lex_halves_ps : List Pk := [Pk.str]
abbrev lex_halves_rs : List Pk := [Pk.int .i64, Pk.bool]
def lex_halves_q (s0 : List UInt8) (K : Int → Bool → Prop) : Prop :=
 (WfPs strings_Cut_ps (s0, ([58] : List UInt8), ()) →
 strings_Cut_q s0 ([58] : List UInt8) (fun x13r0 x13r1 x13r2 =>
 WfPs strings_Cut_rs (x13r0, x13r1, x13r2, ()) →
 (WfPs lex_whole_ps (x13r0, (65535 : Int), ()) →
 lex_whole_q x13r0 (65535 : Int) (fun x19r0 x19r1 =>
 WfPs lex_whole_rs (x19r0, x19r1, ()) →
 (WfPs lex_whole_ps (x13r1, (65535 : Int), ()) →
 lex_whole_q x13r1 (65535 : Int) (fun x24r0 x24r1 =>
 WfPs lex_whole_rs (x24r0, x24r1, ()) →
 (0 : Int) ≤ 16 ∧
 IfB x19r1
 (K (bitsOr .i64 (IntKind.wrap .i64 (x19r0 * 65536)) x24r0) x24r1)
 (K (bitsOr .i64 (IntKind.wrap .i64 (x19r0 * 65536)) x24r0) false)))))))
noncomputable def tab_lex_halves : List (Nat × Ct) := [(f_lex_whole, ct_lex_whole), (f_strings_Cut, ct_strings_Cut)]
theorem lex_halves_eq : (fun (x : PkTs lex_halves_ps) (K : PkTs lex_halves_rs → Prop) => lex_halves_q x.1 (fun r0 r1 => K (r0, r1, ()))) = fun x K => PCode Tryd.prog tab_lex_halves plan_lex_halves (bodyOf Tryd.f31) (parS lex_halves_ps x) (PRet Tryd.prog Tryd.f31.results.toList fun a st => outP lex_halves_rs st a K) := by kernel_rfl
theorem lex_halves_fq : FnQ Tryd.prog f_lex_halves lex_halves_ps lex_halves_rs (fun x K => lex_halves_q x.1 (fun r0 r1 => K (r0, r1, ()))) := (fnQ_of k_lex_halves (tab := tab_lex_halves) ⟨ct_lex_whole_ok, ct_strings_Cut_ok, trivial⟩ rfl).of_eq lex_halves_eq
noncomputable def ct_lex_halves : Ct := ctRd lex_halves_ps lex_halves_rs (fun x K => lex_halves_q x.1 (fun r0 r1 => K (r0, r1, ())))
theorem ct_lex_halves_ok : SoundCt Tryd.prog f_lex_halves ct_lex_halves := ctRd_sound lex_halves_fq
def plan_ip_octet : PPlan := ⟨[], [], [], [], [], []⟩
theorem k_ip_octet : Known Tryd.prog f_ip_octet Tryd.f57 plan_ip_octet.plan (bodyOf Tryd.f57) := ⟨Tryd.func57, by kernel_rfl, by kernel_rfl, by kernel_rfl, by kernel_rfl, by kernel_rfl⟩
abbrev ip_octet_ps : List Pk := [Pk.str]
abbrev ip_octet_rs : List Pk := [Pk.int .i64]
def ip_octet_j0 (x7r0 : Int) (j1 : Bool) (K : Int → Prop) : Prop :=
 IfB j1
 (K (-1))
 (K x7r0)
def ip_octet_q (s0 : List UInt8) (K : Int → Prop) : Prop :=
 (WfPs strconv_Atoi_ps (s0, ()) →
 strconv_Atoi_q s0 (fun x7r0 x7r1 =>
 WfPs strconv_Atoi_rs (x7r0, x7r1, ()) →
 IfB (!x7r1)
 (ip_octet_j0 x7r0 true K)
 (IfB (decide ((x7r0 : Int) > 255))
 (ip_octet_j0 x7r0 true K)
 ((WfPs strconv_Itoa_ps (x7r0, ()) →
 strconv_Itoa_q x7r0 (fun x18 =>
 WfPs strconv_Itoa_rs (x18, ()) →
 ip_octet_j0 x7r0 (!(x18 == s0)) K))))))
noncomputable def tab_ip_octet : List (Nat × Ct) := [(f_strconv_Atoi, ct_strconv_Atoi), (f_strconv_Itoa, ct_strconv_Itoa)]
theorem ip_octet_eq : (fun (x : PkTs ip_octet_ps) (K : PkTs ip_octet_rs → Prop) => ip_octet_q x.1 (fun r0 => K (r0, ()))) = fun x K => PCode Tryd.prog tab_ip_octet plan_ip_octet (bodyOf Tryd.f57) (parS ip_octet_ps x) (PRet Tryd.prog Tryd.f57.results.toList fun a st => outP ip_octet_rs st a K) := by kernel_rfl
theorem ip_octet_fq : FnQ Tryd.prog f_ip_octet ip_octet_ps ip_octet_rs (fun x K => ip_octet_q x.1 (fun r0 => K (r0, ()))) := (fnQ_of k_ip_octet (tab := tab_ip_octet) ⟨ct_strconv_Atoi_ok, ct_strconv_Itoa_ok, trivial⟩ rfl).of_eq ip_octet_eq
noncomputable def ct_ip_octet : Ct := ctRd ip_octet_ps ip_octet_rs (fun x K => ip_octet_q x.1 (fun r0 => K (r0, ())))
theorem ct_ip_octet_ok : SoundCt Tryd.prog f_ip_octet ct_ip_octet := ctRd_sound ip_octet_fq
def pl_ip_Parse_6 : PLoop := ⟨[(5, PK.int .u32), (16, PK.int .i64)], [14, 15], none⟩
def plan_ip_Parse : PPlan := ⟨[], [(6, pl_ip_Parse_6)], [], [], [], []⟩
theorem k_ip_Parse : Known Tryd.prog f_ip_Parse Tryd.f32 plan_ip_Parse.plan (bodyOf Tryd.f32) := ⟨Tryd.func32, by kernel_rfl, by kernel_rfl, by kernel_rfl, by kernel_rfl, by kernel_rfl⟩
abbrev ip_Parse_ps : List Pk := [Pk.str]
abbrev ip_Parse_rs : List Pk := [Pk.int .u32, Pk.int .i64]
def ip_Parse_l6 (x10 : List (List UInt8)) (a5 : Int) (x16 : Int) (next6 : (Int × Int × Unit) → Prop) (K : Int → Int → Prop) : Prop :=
 IfB (decide ((x16 : Int) < (x10.length : Int)))
 ((0 : Int) ≤ x16 ∧ x16 < (x10.length : Int) ∧
 AtN x10 x16.toNat fun x19 =>
 WfT ks_str x19 →
 (WfPs ip_octet_ps (x19, ()) →
 ip_octet_q x19 (fun x21 =>
 WfPs ip_octet_rs (x21, ()) →
 IfB (decide ((x21 : Int) < 0))
 (K 0 2)
 ((0 : Int) ≤ 8 ∧
 next6 ((bitsOr .u32 (IntKind.wrap .u32 (a5 * 256)) (IntKind.wrap .u32 x21)), (IntKind.wrap .i64 (x16 + 1)), ())))))
 (K a5 0)
def ip_Parse_q (s0 : List UInt8) (K : Int → Int → Prop) : Prop :=
 (WfPs strings_Split_ps (s0, ([46] : List UInt8), ()) →
 strings_Split_q s0 ([46] : List UInt8) (fun x10 =>
 WfPs strings_Split_rs (x10, ()) →
 IfB (((x10.length : Int) : Int) != 4)
 (K 0 2)
 (LoopJ (Int × Int × Unit) ((0 : Int), (0 : Int), ()) fun y next =>
 WfY pl_ip_Parse_6.kinds y →
 ip_Parse_l6 x10 y.1 y.2.1 next K)))
noncomputable def tab_ip_Parse : List (Nat × Ct) := [(f_strings_Split, ct_strings_Split), (f_ip_octet, ct_ip_octet)]
theorem ip_Parse_eq : (fun (x : PkTs ip_Parse_ps) (K : PkTs ip_Parse_rs → Prop) => ip_Parse_q x.1 (fun r0 r1 => K (r0, r1, ()))) = fun x K => PCode Tryd.prog tab_ip_Parse plan_ip_Parse (bodyOf Tryd.f32) (parS ip_Parse_ps x) (PRet Tryd.prog Tryd.f32.results.toList fun a st => outP ip_Parse_rs st a K) := by kernel_rfl
theorem ip_Parse_fq : FnQ Tryd.prog f_ip_Parse ip_Parse_ps ip_Parse_rs (fun x K => ip_Parse_q x.1 (fun r0 r1 => K (r0, r1, ()))) := (fnQ_of k_ip_Parse (tab := tab_ip_Parse) ⟨ct_strings_Split_ok, ct_ip_octet_ok, trivial⟩ rfl).of_eq ip_Parse_eq
noncomputable def ct_ip_Parse : Ct := ctRd ip_Parse_ps ip_Parse_rs (fun x K => ip_Parse_q x.1 (fun r0 r1 => K (r0, r1, ())))
theorem ct_ip_Parse_ok : SoundCt Tryd.prog f_ip_Parse ct_ip_Parse := ctRd_sound ip_Parse_fq
def plan_lex_read : PPlan := ⟨[(11, [0, 1, 2, 3, 4, 5, 6, 7], [47])], [], [], [(11, [4])], [], []⟩
theorem k_lex_read : Known Tryd.prog f_lex_read Tryd.f18 plan_lex_read.plan (bodyOf Tryd.f18) := ⟨Tryd.func18, by kernel_rfl, by kernel_rfl, by kernel_rfl, by kernel_rfl, by kernel_rfl⟩
abbrev lex_read_ps : List Pk := [Pk.str]
abbrev lex_read_rs : List Pk := [Pk.agg [Kd.int .i64, Kd.str, Kd.int .i64, Kd.int .u32, Kd.int .i64, Kd.int .i64], Pk.bool]
def lex_read_j0 (s0 : List UInt8) (j6 : Int) (j8 : Int) (j9 : Int) (j10 : Int) (j12 : Bool) (K : (Int × List UInt8 × Int × UInt32 × Int × Int) → Bool → Prop) : Prop :=
 K (j6, s0, j8, (ofI .u32 j9), j10, 0) j12
def lex_read_q (s0 : List UInt8) (K : (Int × List UInt8 × Int × UInt32 × Int × Int) → Bool → Prop) : Prop :=
 (WfPs strings_Trim_ps (s0, ([48, 49, 50, 51, 52, 53, 54, 55, 56, 57] : List UInt8), ()) →
 strings_Trim_q s0 ([48, 49, 50, 51, 52, 53, 54, 55, 56, 57] : List UInt8) (fun x14 =>
 WfPs strings_Trim_rs (x14, ()) →
 IfB (x14 == ([] : List UInt8))
 ((WfPs lex_whole_ps (s0, (4294967295 : Int), ()) →
 lex_whole_q s0 (4294967295 : Int) (fun x35r0 x35r1 =>
 WfPs lex_whole_rs (x35r0, x35r1, ()) →
 lex_read_j0 s0 2 x35r0 0 0 x35r1 K)))
 ((WfPs strings_Contains_ps (s0, ([47] : List UInt8), ()) →
 strings_Contains_q s0 ([47] : List UInt8) (fun x41 =>
 WfPs strings_Contains_rs (x41, ()) →
 IfB x41
 ((WfPs upd_Parse_ps (s0, ()) →
 upd_Parse_q s0 (fun x44r0 x44r1 =>
 WfPs upd_Parse_rs (x44r0, x44r1, ()) →
 lex_read_j0 s0 4 0 (x44r0.1.toNat : Int) x44r0.2 ((x44r1 : Int) == 0) K)))
 ((WfPs strings_Contains_ps (s0, ([58] : List UInt8), ()) →
 strings_Contains_q s0 ([58] : List UInt8) (fun x54 =>
 WfPs strings_Contains_rs (x54, ()) →
 IfB x54
 ((WfPs lex_halves_ps (s0, ()) →
 lex_halves_q s0 (fun x58r0 x58r1 =>
 WfPs lex_halves_rs (x58r0, x58r1, ()) →
 lex_read_j0 s0 5 x58r0 0 0 x58r1 K)))
 ((WfPs strings_Trim_ps (s0, ([48, 49, 50, 51, 52, 53, 54, 55, 56, 57, 46] : List UInt8), ()) →
 strings_Trim_q s0 ([48, 49, 50, 51, 52, 53, 54, 55, 56, 57, 46] : List UInt8) (fun x64 =>
 WfPs strings_Trim_rs (x64, ()) →
 IfB (x64 == ([] : List UInt8))
 ((WfPs ip_Parse_ps (s0, ()) →
 ip_Parse_q s0 (fun x68r0 x68r1 =>
 WfPs ip_Parse_rs (x68r0, x68r1, ()) →
 lex_read_j0 s0 3 (IntKind.wrap .i64 x68r0) 0 0 ((x68r1 : Int) == 0) K)))
 ((0 : Int) ≤ 0 ∧ AtN s0 0 fun x17 =>
 (WfPs lex_letter_ps ((x17.toNat : Int), ()) →
 lex_letter_q (x17.toNat : Int) (fun x18 =>
 WfPs lex_letter_rs (x18, ()) →
 IfB x18
 (IfB (decide (((s0.length : Int) : Int) ≤ 32))
 ((WfPs strings_Contains_ps (s0, ([46] : List UInt8), ()) →
 strings_Contains_q s0 ([46] : List UInt8) (fun x26 =>
 WfPs strings_Contains_rs (x26, ()) →
 lex_read_j0 s0 1 0 0 0 (!x26) K)))
 (lex_read_j0 s0 1 0 0 0 false K))
 (lex_read_j0 s0 1 0 0 0 false K)))))))))))))))
noncomputable def tab_lex_read : List (Nat × Ct) := [(f_lex_letter, ct_lex_letter), (f_strings_Trim, ct_strings_Trim), (f_lex_whole, ct_lex_whole), (f_strings_Contains, ct_strings_Contains), (f_upd_Parse, ct_upd_Parse), (f_lex_halves, ct_lex_halves), (f_ip_Parse, ct_ip_Parse)]
theorem lex_read_eq : (fun (x : PkTs lex_read_ps) (K : PkTs lex_read_rs → Prop) => lex_read_q x.1 (fun r0 r1 => K (r0, r1, ()))) = fun x K => PCode Tryd.prog tab_lex_read plan_lex_read (bodyOf Tryd.f18) (parS lex_read_ps x) (PRet Tryd.prog Tryd.f18.results.toList fun a st => outP lex_read_rs st a K) := by kernel_rfl
theorem lex_read_fq : FnQ Tryd.prog f_lex_read lex_read_ps lex_read_rs (fun x K => lex_read_q x.1 (fun r0 r1 => K (r0, r1, ()))) := (fnQ_of k_lex_read (tab := tab_lex_read) ⟨ct_lex_letter_ok, ct_strings_Trim_ok, ct_lex_whole_ok, ct_strings_Contains_ok, ct_upd_Parse_ok, ct_lex_halves_ok, ct_ip_Parse_ok, trivial⟩ rfl).of_eq lex_read_eq
noncomputable def ct_lex_read : Ct := ctVal lex_read_ps lex_read_rs (fun x K => lex_read_q x.1 (fun r0 r1 => K (r0, r1, ())))
theorem ct_lex_read_ok : SoundCt Tryd.prog f_lex_read ct_lex_read := ctVal_sound lex_read_fq
def pl_lex_Split_16 : PLoop := ⟨[(7, PK.int .i64)], [0, 5, 6, 8, 9], none⟩
def pl_lex_Split_23 : PLoop := ⟨[(9, PK.int .i64)], [0, 5, 6, 7, 8], none⟩
def pl_lex_Split_2000000 : PLoop := ⟨[(5, PK.row T_api_Token [Kd.int .i64, Kd.str, Kd.int .i64, Kd.int .u32, Kd.int .i64, Kd.int .i64]), (7, PK.int .i64), (8, PK.int .i64), (9, PK.int .i64)], [0, 6], some (6, [PK.int .i64, PK.str, PK.int .i64, PK.int .u32, PK.int .i64, PK.int .i64])⟩
def plan_lex_Split : PPlan := ⟨[], [(16, pl_lex_Split_16), (23, pl_lex_Split_23), (2000000, pl_lex_Split_2000000)], [], [], [], []⟩
theorem k_lex_Split : Known Tryd.prog f_lex_Split Tryd.f8 plan_lex_Split.plan (bodyOf Tryd.f8) := ⟨Tryd.func8, by kernel_rfl, by kernel_rfl, by kernel_rfl, by kernel_rfl, by kernel_rfl⟩
abbrev lex_Split_ps : List Pk := [Pk.str]
abbrev lex_Split_rs : List Pk := [Pk.own T_api_Token [Kd.int .i64, Kd.str, Kd.int .i64, Kd.int .u32, Kd.int .i64, Kd.int .i64], Pk.int .i64, Pk.int .i64]
def lex_Split_j2 (line8 : Int) (next2000000 : (List (Int × List UInt8 × Int × UInt32 × Int × Int) × Int × Int × Int × Int × List UInt8 × Int × Int × Int × Int × Unit) → Prop) (K : List (Int × List UInt8 × Int × UInt32 × Int × Int) → Int → Int → Prop) : Prop :=
 K ([] : List (Int × List UInt8 × Int × UInt32 × Int × Int)) line8 240
def lex_Split_j1 (text0 : List UInt8) (l5 : List (Int × List UInt8 × Int × UInt32 × Int × Int)) (c0 : Int) (c1 : List UInt8) (c2 : Int) (c3 : Int) (c4 : Int) (c5 : Int) (at7_1 : Int) (line8 : Int) (end9 : Int) (next2000000 : (List (Int × List UInt8 × Int × UInt32 × Int × Int) × Int × Int × Int × Int × List UInt8 × Int × Int × Int × Int × Unit) → Prop) (next16 : (Int × Unit) → Prop) (j11 : Bool) (K : List (Int × List UInt8 × Int × UInt32 × Int × Int) → Int → Int → Prop) : Prop :=
 IfB j11
 ((0 : Int) ≤ at7_1 ∧ AtN text0 at7_1.toNat fun x54 =>
 (WfPs lex_may_ps ((x54.toNat : Int), ()) →
 lex_may_q (x54.toNat : Int) (fun x55 =>
 WfPs lex_may_rs (x55, ()) →
 IfB (!x55)
 (lex_Split_j2 line8 next2000000 K)
 (next16 ((IntKind.wrap .i64 (at7_1 + 1)), ())))))
 (next2000000 (l5, at7_1, line8, end9, c0, c1, c2, c3, c4, c5, ()))
def lex_Split_l16 (text0 : List UInt8) (l5 : List (Int × List UInt8 × Int × UInt32 × Int × Int)) (c0 : Int) (c1 : List UInt8) (c2 : Int) (c3 : Int) (c4 : Int) (c5 : Int) (line8 : Int) (end9 : Int) (next2000000 : (List (Int × List UInt8 × Int × UInt32 × Int × Int) × Int × Int × Int × Int × List UInt8 × Int × Int × Int × Int × Unit) → Prop) (at7_1 : Int) (next16 : (Int × Unit) → Prop) (K : List (Int × List UInt8 × Int × UInt32 × Int × Int) → Int → Int → Prop) : Prop :=
 IfB (decide ((at7_1 : Int) < (text0.length : Int)))
 ((0 : Int) ≤ at7_1 ∧ AtN text0 at7_1.toNat fun x49 =>
 lex_Split_j1 text0 l5 c0 c1 c2 c3 c4 c5 at7_1 line8 end9 next2000000 next16 (((x49.toNat : Int) : Int) != 10) K)
 (lex_Split_j1 text0 l5 c0 c1 c2 c3 c4 c5 at7_1 line8 end9 next2000000 next16 false K)
def lex_Split_j3 (text0 : List UInt8) (l5 : List (Int × List UInt8 × Int × UInt32 × Int × Int)) (line8 : Int) (next2000000 : (List (Int × List UInt8 × Int × UInt32 × Int × Int) × Int × Int × Int × Int × List UInt8 × Int × Int × Int × Int × Unit) → Prop) (j2 : Int) (j3 : List UInt8) (j4 : Int) (j5 : Int) (j6 : Int) (j7 : Int) (j9 : Int) (j10 : Bool) (K : List (Int × List UInt8 × Int × UInt32 × Int × Int) → Int → Int → Prop) : Prop :=
 IfB (!j10)
 (K ([] : List (Int × List UInt8 × Int × UInt32 × Int × Int)) line8 240)
 (IfB (((l5.length : Int) : Int) == 4096)
 (K ([] : List (Int × List UInt8 × Int × UInt32 × Int × Int)) line8 3)
 (l5.length + ([(j2, j3, j4, (ofI .u32 j5), j6, line8)] : List (Int × List UInt8 × Int × UInt32 × Int × Int)).length ≤ 2513169434820 ∧
 next2000000 ((l5 ++ ([(j2, j3, j4, (ofI .u32 j5), j6, line8)] : List (Int × List UInt8 × Int × UInt32 × Int × Int))), j9, line8, j9, j2, j3, j4, j5, j6, line8, ())))
def lex_Split_j4 (text0 : List UInt8) (l5 : List (Int × List UInt8 × Int × UInt32 × Int × Int)) (c0 : Int) (c1 : List UInt8) (c2 : Int) (c3 : Int) (c4 : Int) (c5 : Int) (at7 : Int) (line8 : Int) (end9_1 : Int) (next2000000 : (List (Int × List UInt8 × Int × UInt32 × Int × Int) × Int × Int × Int × Int × List UInt8 × Int × Int × Int × Int × Unit) → Prop) (next23 : (Int × Unit) → Prop) (j11_1 : Bool) (K : List (Int × List UInt8 × Int × UInt32 × Int × Int) → Int → Int → Prop) : Prop :=
 IfB j11_1
 (next23 ((IntKind.wrap .i64 (end9_1 + 1)), ()))
 ((0 : Int) ≤ end9_1 ∧ end9_1 ≤ (text0.length : Int) ∧
 (0 : Int) ≤ at7 ∧ at7 ≤ (end9_1.toNat : Int) ∧
 (WfPs lex_read_ps (((text0.take end9_1.toNat).drop at7.toNat), ()) →
 lex_read_q ((text0.take end9_1.toNat).drop at7.toNat) (fun x92r0 x92r1 =>
 WfPs lex_read_rs (x92r0, x92r1, ()) →
 IfB (!x92r1)
 (lex_Split_j2 line8 next2000000 K)
 (IfB (((l5.length : Int) : Int) == 4096)
 (K ([] : List (Int × List UInt8 × Int × UInt32 × Int × Int)) line8 3)
 (l5.length + ([(x92r0.1, x92r0.2.1, x92r0.2.2.1, (ofI .u32 (x92r0.2.2.2.1.toNat : Int)), x92r0.2.2.2.2.1, line8)] : List (Int × List UInt8 × Int × UInt32 × Int × Int)).length ≤ 2513169434820 ∧
 next2000000 ((l5 ++ ([(x92r0.1, x92r0.2.1, x92r0.2.2.1, (ofI .u32 (x92r0.2.2.2.1.toNat : Int)), x92r0.2.2.2.2.1, line8)] : List (Int × List UInt8 × Int × UInt32 × Int × Int))), end9_1, line8, end9_1, x92r0.1, x92r0.2.1, x92r0.2.2.1, (x92r0.2.2.2.1.toNat : Int), x92r0.2.2.2.2.1, line8, ()))))))
def lex_Split_l23 (text0 : List UInt8) (l5 : List (Int × List UInt8 × Int × UInt32 × Int × Int)) (c0 : Int) (c1 : List UInt8) (c2 : Int) (c3 : Int) (c4 : Int) (c5 : Int) (at7 : Int) (line8 : Int) (next2000000 : (List (Int × List UInt8 × Int × UInt32 × Int × Int) × Int × Int × Int × Int × List UInt8 × Int × Int × Int × Int × Unit) → Prop) (end9_1 : Int) (next23 : (Int × Unit) → Prop) (K : List (Int × List UInt8 × Int × UInt32 × Int × Int) → Int → Int → Prop) : Prop :=
 IfB (decide ((end9_1 : Int) < (text0.length : Int)))
 ((0 : Int) ≤ end9_1 ∧ AtN text0 end9_1.toNat fun x82 =>
 (WfPs lex_part_ps ((x82.toNat : Int), ()) →
 lex_part_q (x82.toNat : Int) (fun x83 =>
 WfPs lex_part_rs (x83, ()) →
 lex_Split_j4 text0 l5 c0 c1 c2 c3 c4 c5 at7 line8 end9_1 next2000000 next23 x83 K)))
 (lex_Split_j4 text0 l5 c0 c1 c2 c3 c4 c5 at7 line8 end9_1 next2000000 next23 false K)
def lex_Split_j0 (text0 : List UInt8) (l5 : List (Int × List UInt8 × Int × UInt32 × Int × Int)) (c0 : Int) (c1 : List UInt8) (c2 : Int) (c3 : Int) (c4 : Int) (c5 : Int) (at7 : Int) (line8 : Int) (end9 : Int) (x22 : UInt8) (next2000000 : (List (Int × List UInt8 × Int × UInt32 × Int × Int) × Int × Int × Int × Int × List UInt8 × Int × Int × Int × Int × Unit) → Prop) (j12 : Bool) (K : List (Int × List UInt8 × Int × UInt32 × Int × Int) → Int → Int → Prop) : Prop :=
 IfB j12
 (next2000000 (l5, (IntKind.wrap .i64 (at7 + 1)), line8, end9, c0, c1, c2, c3, c4, c5, ()))
 (IfB (((x22.toNat : Int) : Int) == 35)
 (LoopJ (Int × Unit) (at7, ()) fun y next =>
 WfY pl_lex_Split_16.kinds y →
 lex_Split_l16 text0 l5 c0 c1 c2 c3 c4 c5 line8 end9 next2000000 y.1 next K)
 ((WfPs strings_IndexByte_ps (([123, 125, 40, 41, 59] : List UInt8), (x22.toNat : Int), ()) →
 strings_IndexByte_q ([123, 125, 40, 41, 59] : List UInt8) (x22.toNat : Int) (fun x61 =>
 WfPs strings_IndexByte_rs (x61, ()) →
 IfB (decide ((x61 : Int) ≥ 0))
 ((0 : Int) ≤ (IntKind.wrap .i64 (at7 + 1)) ∧ (IntKind.wrap .i64 (at7 + 1)) ≤ (text0.length : Int) ∧
 (0 : Int) ≤ at7 ∧ at7 ≤ ((IntKind.wrap .i64 (at7 + 1)).toNat : Int) ∧
 lex_Split_j3 text0 l5 line8 next2000000 6 ((text0.take ((IntKind.wrap .i64 (at7 + 1)).toNat)).drop at7.toNat) 0 0 0 0 (IntKind.wrap .i64 (at7 + 1)) true K)
 ((WfPs lex_part_ps ((x22.toNat : Int), ()) →
 lex_part_q (x22.toNat : Int) (fun x73 =>
 WfPs lex_part_rs (x73, ()) →
 IfB x73
 (LoopJ (Int × Unit) (at7, ()) fun y next =>
 WfY pl_lex_Split_23.kinds y →
 lex_Split_l23 text0 l5 c0 c1 c2 c3 c4 c5 at7 line8 next2000000 y.1 next K)
 (lex_Split_j3 text0 l5 line8 next2000000 c0 c1 c2 c3 c4 c5 end9 false K))))))))
def lex_Split_l2000000 (text0 : List UInt8) (l5 : List (Int × List UInt8 × Int × UInt32 × Int × Int)) (at7 : Int) (line8 : Int) (end9 : Int) (c0 : Int) (c1 : List UInt8) (c2 : Int) (c3 : Int) (c4 : Int) (c5 : Int) (next2000000 : (List (Int × List UInt8 × Int × UInt32 × Int × Int) × Int × Int × Int × Int × List UInt8 × Int × Int × Int × Int × Unit) → Prop) (K : List (Int × List UInt8 × Int × UInt32 × Int × Int) → Int → Int → Prop) : Prop :=
 IfB ((at7 : Int) == (text0.length : Int))
 (K l5 0 0)
 ((0 : Int) ≤ at7 ∧ AtN text0 at7.toNat fun x22 =>
 IfB (((x22.toNat : Int) : Int) == 10)
 (next2000000 (l5, (IntKind.wrap .i64 (at7 + 1)), (IntKind.wrap .i64 (line8 + 1)), end9, c0, c1, c2, c3, c4, c5, ()))
 (IfB (((x22.toNat : Int) : Int) == 32)
 (lex_Split_j0 text0 l5 c0 c1 c2 c3 c4 c5 at7 line8 end9 x22 next2000000 true K)
 (lex_Split_j0 text0 l5 c0 c1 c2 c3 c4 c5 at7 line8 end9 x22 next2000000 (((x22.toNat : Int) : Int) == 9) K)))
def lex_Split_q (text0 : List UInt8) (K : List (Int × List UInt8 × Int × UInt32 × Int × Int) → Int → Int → Prop) : Prop :=
 IfB (decide (((text0.length : Int) : Int) > 65536))
 (K ([] : List (Int × List UInt8 × Int × UInt32 × Int × Int)) 0 3)
 (LoopJ (List (Int × List UInt8 × Int × UInt32 × Int × Int) × Int × Int × Int × Int × List UInt8 × Int × Int × Int × Int × Unit) (([] : List (Int × List UInt8 × Int × UInt32 × Int × Int)), (0 : Int), (1 : Int), (0 : Int), (0 : Int), ([] : List UInt8), (0 : Int), (0 : Int), (0 : Int), (0 : Int), ()) fun y next =>
 WfY pl_lex_Split_2000000.kinds y →
 lex_Split_l2000000 text0 y.1 y.2.1 y.2.2.1 y.2.2.2.1 y.2.2.2.2.1 y.2.2.2.2.2.1 y.2.2.2.2.2.2.1 y.2.2.2.2.2.2.2.1 y.2.2.2.2.2.2.2.2.1 y.2.2.2.2.2.2.2.2.2.1 next K)
noncomputable def tab_lex_Split : List (Nat × Ct) := [(f_lex_may, ct_lex_may), (f_strings_IndexByte, ct_strings_IndexByte), (f_lex_part, ct_lex_part), (f_lex_read, ct_lex_read)]
theorem lex_Split_eq : (fun (x : PkTs lex_Split_ps) (K : PkTs lex_Split_rs → Prop) => lex_Split_q x.1 (fun r0 r1 r2 => K (r0, r1, r2, ()))) = fun x K => PCode Tryd.prog tab_lex_Split plan_lex_Split (bodyOf Tryd.f8) (parS lex_Split_ps x) (PRet Tryd.prog Tryd.f8.results.toList fun a st => outP lex_Split_rs st a K) := by kernel_rfl
theorem lex_Split_fq : FnQ Tryd.prog f_lex_Split lex_Split_ps lex_Split_rs (fun x K => lex_Split_q x.1 (fun r0 r1 r2 => K (r0, r1, r2, ()))) := (fnQ_of k_lex_Split (tab := tab_lex_Split) ⟨ct_lex_may_ok, ct_strings_IndexByte_ok, ct_lex_part_ok, ct_lex_read_ok, trivial⟩ rfl).of_eq lex_Split_eq
noncomputable def ct_lex_Split : Ct := ctVal lex_Split_ps lex_Split_rs (fun x K => lex_Split_q x.1 (fun r0 r1 r2 => K (r0, r1, r2, ())))
theorem ct_lex_Split_ok : SoundCt Tryd.prog f_lex_Split ct_lex_Split := ctVal_sound lex_Split_fq
def plan_ref24_sign : PPlan := ⟨[], [], [], [], [], []⟩
theorem k_ref24_sign : Known Tryd.prog f_ref24_sign Tryd.f19 plan_ref24_sign.plan (bodyOf Tryd.f19) := ⟨Tryd.func19, by kernel_rfl, by kernel_rfl, by kernel_rfl, by kernel_rfl, by kernel_rfl⟩
abbrev ref24_sign_ps : List Pk := [Pk.int .u8]
abbrev ref24_sign_rs : List Pk := [Pk.bool]
def ref24_sign_q (c0 : Int) (K : Bool → Prop) : Prop :=
 IfB ((c0 : Int) == 123)
 (K true)
 (IfB ((c0 : Int) == 125)
 (K true)
 (IfB ((c0 : Int) == 40)
 (K true)
 (IfB ((c0 : Int) == 41)
 (K true)
 (K ((c0 : Int) == 59)))))
noncomputable def tab_ref24_sign : List (Nat × Ct) := []
theorem ref24_sign_eq : (fun (x : PkTs ref24_sign_ps) (K : PkTs ref24_sign_rs → Prop) => ref24_sign_q x.1 (fun r0 => K (r0, ()))) = fun x K => PCode Tryd.prog tab_ref24_sign plan_ref24_sign (bodyOf Tryd.f19) (parS ref24_sign_ps x) (PRet Tryd.prog Tryd.f19.results.toList fun a st => outP ref24_sign_rs st a K) := by kernel_rfl
theorem ref24_sign_fq : FnQ Tryd.prog f_ref24_sign ref24_sign_ps ref24_sign_rs (fun x K => ref24_sign_q x.1 (fun r0 => K (r0, ()))) := (fnQ_of k_ref24_sign (tab := tab_ref24_sign) trivial rfl).of_eq ref24_sign_eq
noncomputable def ct_ref24_sign : Ct := ctRd ref24_sign_ps ref24_sign_rs (fun x K => ref24_sign_q x.1 (fun r0 => K (r0, ())))
theorem ct_ref24_sign_ok : SoundCt Tryd.prog f_ref24_sign ct_ref24_sign := ctRd_sound ref24_sign_fq
def plan_ref24_digit : PPlan := ⟨[], [], [], [], [], []⟩
theorem k_ref24_digit : Known Tryd.prog f_ref24_digit Tryd.f33 plan_ref24_digit.plan (bodyOf Tryd.f33) := ⟨Tryd.func33, by kernel_rfl, by kernel_rfl, by kernel_rfl, by kernel_rfl, by kernel_rfl⟩
abbrev ref24_digit_ps : List Pk := [Pk.int .u8]
abbrev ref24_digit_rs : List Pk := [Pk.bool]
def ref24_digit_q (c0 : Int) (K : Bool → Prop) : Prop :=
 IfB (decide ((c0 : Int) ≥ 48))
 (K (decide ((c0 : Int) ≤ 57)))
 (K false)
noncomputable def tab_ref24_digit : List (Nat × Ct) := []
theorem ref24_digit_eq : (fun (x : PkTs ref24_digit_ps) (K : PkTs ref24_digit_rs → Prop) => ref24_digit_q x.1 (fun r0 => K (r0, ()))) = fun x K => PCode Tryd.prog tab_ref24_digit plan_ref24_digit (bodyOf Tryd.f33) (parS ref24_digit_ps x) (PRet Tryd.prog Tryd.f33.results.toList fun a st => outP ref24_digit_rs st a K) := by kernel_rfl
theorem ref24_digit_fq : FnQ Tryd.prog f_ref24_digit ref24_digit_ps ref24_digit_rs (fun x K => ref24_digit_q x.1 (fun r0 => K (r0, ()))) := (fnQ_of k_ref24_digit (tab := tab_ref24_digit) trivial rfl).of_eq ref24_digit_eq
noncomputable def ct_ref24_digit : Ct := ctRd ref24_digit_ps ref24_digit_rs (fun x K => ref24_digit_q x.1 (fun r0 => K (r0, ())))
theorem ct_ref24_digit_ok : SoundCt Tryd.prog f_ref24_digit ct_ref24_digit := ctRd_sound ref24_digit_fq
def plan_ref24_letter : PPlan := ⟨[], [], [], [], [], []⟩
theorem k_ref24_letter : Known Tryd.prog f_ref24_letter Tryd.f34 plan_ref24_letter.plan (bodyOf Tryd.f34) := ⟨Tryd.func34, by kernel_rfl, by kernel_rfl, by kernel_rfl, by kernel_rfl, by kernel_rfl⟩
abbrev ref24_letter_ps : List Pk := [Pk.int .u8]
abbrev ref24_letter_rs : List Pk := [Pk.bool]
def ref24_letter_q (c0 : Int) (K : Bool → Prop) : Prop :=
 IfB (decide ((c0 : Int) ≥ 97))
 (IfB (decide ((c0 : Int) ≤ 122))
 (K true)
 (IfB (decide ((c0 : Int) ≥ 65))
 (K (decide ((c0 : Int) ≤ 90)))
 (K false)))
 (IfB (decide ((c0 : Int) ≥ 65))
 (K (decide ((c0 : Int) ≤ 90)))
 (K false))
noncomputable def tab_ref24_letter : List (Nat × Ct) := []
theorem ref24_letter_eq : (fun (x : PkTs ref24_letter_ps) (K : PkTs ref24_letter_rs → Prop) => ref24_letter_q x.1 (fun r0 => K (r0, ()))) = fun x K => PCode Tryd.prog tab_ref24_letter plan_ref24_letter (bodyOf Tryd.f34) (parS ref24_letter_ps x) (PRet Tryd.prog Tryd.f34.results.toList fun a st => outP ref24_letter_rs st a K) := by kernel_rfl
theorem ref24_letter_fq : FnQ Tryd.prog f_ref24_letter ref24_letter_ps ref24_letter_rs (fun x K => ref24_letter_q x.1 (fun r0 => K (r0, ()))) := (fnQ_of k_ref24_letter (tab := tab_ref24_letter) trivial rfl).of_eq ref24_letter_eq
noncomputable def ct_ref24_letter : Ct := ctRd ref24_letter_ps ref24_letter_rs (fun x K => ref24_letter_q x.1 (fun r0 => K (r0, ())))
theorem ct_ref24_letter_ok : SoundCt Tryd.prog f_ref24_letter ct_ref24_letter := ctRd_sound ref24_letter_fq
def plan_ref24_part : PPlan := ⟨[], [], [], [], [], []⟩
theorem k_ref24_part : Known Tryd.prog f_ref24_part Tryd.f20 plan_ref24_part.plan (bodyOf Tryd.f20) := ⟨Tryd.func20, by kernel_rfl, by kernel_rfl, by kernel_rfl, by kernel_rfl, by kernel_rfl⟩
abbrev ref24_part_ps : List Pk := [Pk.int .u8]
abbrev ref24_part_rs : List Pk := [Pk.bool]
def ref24_part_q (c0 : Int) (K : Bool → Prop) : Prop :=
 (WfPs ref24_digit_ps (c0, ()) →
 ref24_digit_q c0 (fun x4 =>
 WfPs ref24_digit_rs (x4, ()) →
 IfB x4
 (K true)
 ((WfPs ref24_letter_ps (c0, ()) →
 ref24_letter_q c0 (fun x7 =>
 WfPs ref24_letter_rs (x7, ()) →
 IfB x7
 (K true)
 (IfB ((c0 : Int) == 95)
 (K true)
 (IfB ((c0 : Int) == 45)
 (K true)
 (IfB ((c0 : Int) == 46)
 (K true)
 (IfB ((c0 : Int) == 58)
 (K true)
 (K ((c0 : Int) == 47)))))))))))
noncomputable def tab_ref24_part : List (Nat × Ct) := [(f_ref24_digit, ct_ref24_digit), (f_ref24_letter, ct_ref24_letter)]
theorem ref24_part_eq : (fun (x : PkTs ref24_part_ps) (K : PkTs ref24_part_rs → Prop) => ref24_part_q x.1 (fun r0 => K (r0, ()))) = fun x K => PCode Tryd.prog tab_ref24_part plan_ref24_part (bodyOf Tryd.f20) (parS ref24_part_ps x) (PRet Tryd.prog Tryd.f20.results.toList fun a st => outP ref24_part_rs st a K) := by kernel_rfl
theorem ref24_part_fq : FnQ Tryd.prog f_ref24_part ref24_part_ps ref24_part_rs (fun x K => ref24_part_q x.1 (fun r0 => K (r0, ()))) := (fnQ_of k_ref24_part (tab := tab_ref24_part) ⟨ct_ref24_digit_ok, ct_ref24_letter_ok, trivial⟩ rfl).of_eq ref24_part_eq
noncomputable def ct_ref24_part : Ct := ctRd ref24_part_ps ref24_part_rs (fun x K => ref24_part_q x.1 (fun r0 => K (r0, ())))
theorem ct_ref24_part_ok : SoundCt Tryd.prog f_ref24_part ct_ref24_part := ctRd_sound ref24_part_fq
def pl_ref24_all_2 : PLoop := ⟨[(5, PK.int .i64)], [0, 1], none⟩
def plan_ref24_all : PPlan := ⟨[], [(2, pl_ref24_all_2)], [], [], [], []⟩
theorem k_ref24_all : Known Tryd.prog f_ref24_all Tryd.f35 plan_ref24_all.plan (bodyOf Tryd.f35) := ⟨Tryd.func35, by kernel_rfl, by kernel_rfl, by kernel_rfl, by kernel_rfl, by kernel_rfl⟩
abbrev ref24_all_ps : List Pk := [Pk.str, Pk.int .u8]
abbrev ref24_all_rs : List Pk := [Pk.bool]
def ref24_all_j0 (s0 : List UInt8) (other1 : Int) (i5 : Int) (next2 : (Int × Unit) → Prop) (j3 : Bool) (K : Bool → Prop) : Prop :=
 IfB j3
 (K false)
 (next2 ((IntKind.wrap .i64 (i5 + 1)), ()))
def ref24_all_l2 (s0 : List UInt8) (other1 : Int) (i5 : Int) (next2 : (Int × Unit) → Prop) (K : Bool → Prop) : Prop :=
 IfB (decide ((i5 : Int) < (s0.length : Int)))
 ((0 : Int) ≤ i5 ∧ AtN s0 i5.toNat fun x14 =>
 (WfPs ref24_digit_ps ((x14.toNat : Int), ()) →
 ref24_digit_q (x14.toNat : Int) (fun x15 =>
 WfPs ref24_digit_rs (x15, ()) →
 IfB (!x15)
 ((0 : Int) ≤ i5 ∧ AtN s0 i5.toNat fun x20 =>
 ref24_all_j0 s0 other1 i5 next2 (((x20.toNat : Int) : Int) != other1) K)
 (ref24_all_j0 s0 other1 i5 next2 false K))))
 (K true)
def ref24_all_q (s0 : List UInt8) (other1 : Int) (K : Bool → Prop) : Prop :=
 LoopJ (Int × Unit) ((0 : Int), ()) fun y next =>
 WfY pl_ref24_all_2.kinds y →
 ref24_all_l2 s0 other1 y.1 next K
noncomputable def tab_ref24_all : List (Nat × Ct) := [(f_ref24_digit, ct_ref24_digit)]
theorem ref24_all_eq : (fun (x : PkTs ref24_all_ps) (K : PkTs ref24_all_rs → Prop) => ref24_all_q x.1 x.2.1 (fun r0 => K (r0, ()))) = fun x K => PCode Tryd.prog tab_ref24_all plan_ref24_all (bodyOf Tryd.f35) (parS ref24_all_ps x) (PRet Tryd.prog Tryd.f35.results.toList fun a st => outP ref24_all_rs st a K) := by kernel_rfl
theorem ref24_all_fq : FnQ Tryd.prog f_ref24_all ref24_all_ps ref24_all_rs (fun x K => ref24_all_q x.1 x.2.1 (fun r0 => K (r0, ()))) := (fnQ_of k_ref24_all (tab := tab_ref24_all) ⟨ct_ref24_digit_ok, trivial⟩ rfl).of_eq ref24_all_eq
noncomputable def ct_ref24_all : Ct := ctRd ref24_all_ps ref24_all_rs (fun x K => ref24_all_q x.1 x.2.1 (fun r0 => K (r0, ())))
theorem ct_ref24_all_ok : SoundCt Tryd.prog f_ref24_all ct_ref24_all := ctRd_sound ref24_all_fq
def pl_base_Whole_5 : PLoop := ⟨[(6, PK.int .i64), (7, PK.int .i64)], [0], none⟩
def plan_base_Whole : PPlan := ⟨[], [(5, pl_base_Whole_5)], [], [], [], []⟩
theorem k_base_Whole : Known Tryd.prog f_base_Whole Tryd.f36 plan_base_Whole.plan (bodyOf Tryd.f36) := ⟨Tryd.func36, by kernel_rfl, by kernel_rfl, by kernel_rfl, by kernel_rfl, by kernel_rfl⟩
abbrev base_Whole_ps : List Pk := [Pk.str, Pk.int .i64]
abbrev base_Whole_rs : List Pk := [Pk.int .i64, Pk.bool]
def base_Whole_j1 (s0 : List UInt8) (n6 : Int) (i7 : Int) (next5 : (Int × Int × Unit) → Prop) (j3 : Bool) (K : Int → Bool → Prop) : Prop :=
 IfB j3
 (K 0 false)
 ((0 : Int) ≤ i7 ∧ AtN s0 i7.toNat fun x46 =>
 next5 ((IntKind.wrap .i64 ((IntKind.wrap .i64 (10 * n6)) + (IntKind.wrap .i64 (IntKind.wrap .u8 ((x46.toNat : Int) - 48))))), (IntKind.wrap .i64 (i7 + 1)), ()))
def base_Whole_l5 (s0 : List UInt8) (n6 : Int) (i7 : Int) (next5 : (Int × Int × Unit) → Prop) (K : Int → Bool → Prop) : Prop :=
 IfB (decide ((i7 : Int) < (s0.length : Int)))
 ((0 : Int) ≤ i7 ∧ AtN s0 i7.toNat fun x34 =>
 IfB (decide (((x34.toNat : Int) : Int) < 48))
 (base_Whole_j1 s0 n6 i7 next5 true K)
 ((0 : Int) ≤ i7 ∧ AtN s0 i7.toNat fun x39 =>
 base_Whole_j1 s0 n6 i7 next5 (decide (((x39.toNat : Int) : Int) > 57)) K))
 (K n6 true)
def base_Whole_j0 (s0 : List UInt8) (j1 : Bool) (K : Int → Bool → Prop) : Prop :=
 IfB j1
 (K 0 false)
 (LoopJ (Int × Int × Unit) ((0 : Int), (0 : Int), ()) fun y next =>
 WfY pl_base_Whole_5.kinds y →
 base_Whole_l5 s0 y.1 y.2.1 next K)
def base_Whole_q (s0 : List UInt8) (most1 : Int) (K : Int → Bool → Prop) : Prop :=
 IfB (s0 == ([] : List UInt8))
 (base_Whole_j0 s0 true K)
 (IfB (decide (((s0.length : Int) : Int) > most1))
 (base_Whole_j0 s0 true K)
 (IfB (decide (((s0.length : Int) : Int) > 1))
 ((0 : Int) ≤ 0 ∧ AtN s0 0 fun x22 =>
 base_Whole_j0 s0 (((x22.toNat : Int) : Int) == 48) K)
 (base_Whole_j0 s0 false K)))
noncomputable def tab_base_Whole : List (Nat × Ct) := []
theorem base_Whole_eq : (fun (x : PkTs base_Whole_ps) (K : PkTs base_Whole_rs → Prop) => base_Whole_q x.1 x.2.1 (fun r0 r1 => K (r0, r1, ()))) = fun x K => PCode Tryd.prog tab_base_Whole plan_base_Whole (bodyOf Tryd.f36) (parS base_Whole_ps x) (PRet Tryd.prog Tryd.f36.results.toList fun a st => outP base_Whole_rs st a K) := by kernel_rfl
theorem base_Whole_fq : FnQ Tryd.prog f_base_Whole base_Whole_ps base_Whole_rs (fun x K => base_Whole_q x.1 x.2.1 (fun r0 r1 => K (r0, r1, ()))) := (fnQ_of k_base_Whole (tab := tab_base_Whole) trivial rfl).of_eq base_Whole_eq
noncomputable def ct_base_Whole : Ct := ctRd base_Whole_ps base_Whole_rs (fun x K => base_Whole_q x.1 x.2.1 (fun r0 r1 => K (r0, r1, ())))
theorem ct_base_Whole_ok : SoundCt Tryd.prog f_base_Whole ct_base_Whole := ctRd_sound base_Whole_fq
def pl_ref24_has_2 : PLoop := ⟨[(5, PK.int .i64)], [0, 1], none⟩
def plan_ref24_has : PPlan := ⟨[], [(2, pl_ref24_has_2)], [], [], [], []⟩
theorem k_ref24_has : Known Tryd.prog f_ref24_has Tryd.f37 plan_ref24_has.plan (bodyOf Tryd.f37) := ⟨Tryd.func37, by kernel_rfl, by kernel_rfl, by kernel_rfl, by kernel_rfl, by kernel_rfl⟩
abbrev ref24_has_ps : List Pk := [Pk.str, Pk.int .u8]
abbrev ref24_has_rs : List Pk := [Pk.bool]
def ref24_has_l2 (s0 : List UInt8) (c1 : Int) (i5 : Int) (next2 : (Int × Unit) → Prop) (K : Bool → Prop) : Prop :=
 IfB (decide ((i5 : Int) < (s0.length : Int)))
 ((0 : Int) ≤ i5 ∧ AtN s0 i5.toNat fun x14 =>
 IfB (((x14.toNat : Int) : Int) == c1)
 (K true)
 (next2 ((IntKind.wrap .i64 (i5 + 1)), ())))
 (K false)
def ref24_has_q (s0 : List UInt8) (c1 : Int) (K : Bool → Prop) : Prop :=
 LoopJ (Int × Unit) ((0 : Int), ()) fun y next =>
 WfY pl_ref24_has_2.kinds y →
 ref24_has_l2 s0 c1 y.1 next K
noncomputable def tab_ref24_has : List (Nat × Ct) := []
theorem ref24_has_eq : (fun (x : PkTs ref24_has_ps) (K : PkTs ref24_has_rs → Prop) => ref24_has_q x.1 x.2.1 (fun r0 => K (r0, ()))) = fun x K => PCode Tryd.prog tab_ref24_has plan_ref24_has (bodyOf Tryd.f37) (parS ref24_has_ps x) (PRet Tryd.prog Tryd.f37.results.toList fun a st => outP ref24_has_rs st a K) := by kernel_rfl
theorem ref24_has_fq : FnQ Tryd.prog f_ref24_has ref24_has_ps ref24_has_rs (fun x K => ref24_has_q x.1 x.2.1 (fun r0 => K (r0, ()))) := (fnQ_of k_ref24_has (tab := tab_ref24_has) trivial rfl).of_eq ref24_has_eq
noncomputable def ct_ref24_has : Ct := ctRd ref24_has_ps ref24_has_rs (fun x K => ref24_has_q x.1 x.2.1 (fun r0 => K (r0, ())))
theorem ct_ref24_has_ok : SoundCt Tryd.prog f_ref24_has ct_ref24_has := ctRd_sound ref24_has_fq
def pl_base_Split_4 : PLoop := ⟨[(5, PK.row T_string [Kd.str]), (6, PK.int .i64), (7, PK.int .i64)], [0, 1], none⟩
def plan_base_Split : PPlan := ⟨[], [(4, pl_base_Split_4)], [], [], [], []⟩
theorem k_base_Split : Known Tryd.prog f_base_Split Tryd.f39 plan_base_Split.plan (bodyOf Tryd.f39) := ⟨Tryd.func39, by kernel_rfl, by kernel_rfl, by kernel_rfl, by kernel_rfl, by kernel_rfl⟩
abbrev base_Split_ps : List Pk := [Pk.str, Pk.int .u8]
abbrev base_Split_rs : List Pk := [Pk.own T_string [Kd.str]]
def base_Split_j0 (s0 : List UInt8) (c1 : Int) (i7 : Int) (next4 : (List (List UInt8) × Int × Int × Unit) → Prop) (j2 : List (List UInt8)) (j3 : Int) (K : List (List UInt8) → Prop) : Prop :=
 next4 (j2, j3, (IntKind.wrap .i64 (i7 + 1)), ())
def base_Split_l4 (s0 : List UInt8) (c1 : Int) (out5 : List (List UInt8)) (from6 : Int) (i7 : Int) (next4 : (List (List UInt8) × Int × Int × Unit) → Prop) (K : List (List UInt8) → Prop) : Prop :=
 IfB (decide ((i7 : Int) < (s0.length : Int)))
 ((0 : Int) ≤ i7 ∧ AtN s0 i7.toNat fun x17 =>
 IfB (((x17.toNat : Int) : Int) == c1)
 ((0 : Int) ≤ i7 ∧ i7 ≤ (s0.length : Int) ∧
 (0 : Int) ≤ from6 ∧ from6 ≤ (i7.toNat : Int) ∧
 out5.length + ([((s0.take i7.toNat).drop from6.toNat)] : List (List UInt8)).length ≤ 8796093022112 ∧
 base_Split_j0 s0 c1 i7 next4 (out5 ++ ([((s0.take i7.toNat).drop from6.toNat)] : List (List UInt8))) (IntKind.wrap .i64 (i7 + 1)) K)
 (base_Split_j0 s0 c1 i7 next4 out5 from6 K))
 ((0 : Int) ≤ from6 ∧ from6 ≤ (s0.length : Int) ∧
 out5.length + ([(s0.drop from6.toNat)] : List (List UInt8)).length ≤ 8796093022112 ∧
 K (out5 ++ ([(s0.drop from6.toNat)] : List (List UInt8))))
def base_Split_q (s0 : List UInt8) (c1 : Int) (K : List (List UInt8) → Prop) : Prop :=
 LoopJ (List (List UInt8) × Int × Int × Unit) (([] : List (List UInt8)), (0 : Int), (0 : Int), ()) fun y next =>
 WfY pl_base_Split_4.kinds y →
 base_Split_l4 s0 c1 y.1 y.2.1 y.2.2.1 next K
noncomputable def tab_base_Split : List (Nat × Ct) := []
theorem base_Split_eq : (fun (x : PkTs base_Split_ps) (K : PkTs base_Split_rs → Prop) => base_Split_q x.1 x.2.1 (fun r0 => K (r0, ()))) = fun x K => PCode Tryd.prog tab_base_Split plan_base_Split (bodyOf Tryd.f39) (parS base_Split_ps x) (PRet Tryd.prog Tryd.f39.results.toList fun a st => outP base_Split_rs st a K) := by kernel_rfl
theorem base_Split_fq : FnQ Tryd.prog f_base_Split base_Split_ps base_Split_rs (fun x K => base_Split_q x.1 x.2.1 (fun r0 => K (r0, ()))) := (fnQ_of k_base_Split (tab := tab_base_Split) trivial rfl).of_eq base_Split_eq
noncomputable def ct_base_Split : Ct := ctVal base_Split_ps base_Split_rs (fun x K => base_Split_q x.1 x.2.1 (fun r0 => K (r0, ())))
theorem ct_base_Split_ok : SoundCt Tryd.prog f_base_Split ct_base_Split := ctVal_sound base_Split_fq
def pl_ref07_Parse_8 : PLoop := ⟨[(5, PK.int .u32), (6, PK.int .i64)], [4], none⟩
def plan_ref07_Parse : PPlan := ⟨[], [(8, pl_ref07_Parse_8)], [], [], [], []⟩
theorem k_ref07_Parse : Known Tryd.prog f_ref07_Parse Tryd.f40 plan_ref07_Parse.plan (bodyOf Tryd.f40) := ⟨Tryd.func40, by kernel_rfl, by kernel_rfl, by kernel_rfl, by kernel_rfl, by kernel_rfl⟩
abbrev ref07_Parse_ps : List Pk := [Pk.str]
abbrev ref07_Parse_rs : List Pk := [Pk.int .u32, Pk.int .i64]
def ref07_Parse_j0 (x13 : List (List UInt8)) (a5 : Int) (i6 : Int) (x26r0 : Int) (next8 : (Int × Int × Unit) → Prop) (j4 : Bool) (K : Int → Int → Prop) : Prop :=
 IfB j4
 (K 0 2)
 (next8 ((IntKind.wrap .u32 ((IntKind.wrap .u32 (256 * a5)) + (IntKind.wrap .u32 x26r0))), (IntKind.wrap .i64 (i6 + 1)), ()))
def ref07_Parse_l8 (x13 : List (List UInt8)) (a5 : Int) (i6 : Int) (next8 : (Int × Int × Unit) → Prop) (K : Int → Int → Prop) : Prop :=
 IfB (decide ((i6 : Int) < 4))
 ((0 : Int) ≤ i6 ∧ i6 < (x13.length : Int) ∧
 AtN x13 i6.toNat fun x25 =>
 WfT ks_str x25 →
 (WfPs base_Whole_ps (x25, (3 : Int), ()) →
 base_Whole_q x25 (3 : Int) (fun x26r0 x26r1 =>
 WfPs base_Whole_rs (x26r0, x26r1, ()) →
 IfB (!x26r1)
 (ref07_Parse_j0 x13 a5 i6 x26r0 next8 true K)
 (ref07_Parse_j0 x13 a5 i6 x26r0 next8 (decide ((x26r0 : Int) > 255)) K))))
 (K a5 0)
def ref07_Parse_q (s0 : List UInt8) (K : Int → Int → Prop) : Prop :=
 IfB (decide (((s0.length : Int) : Int) > 15))
 (K 0 2)
 ((WfPs base_Split_ps (s0, (46 : Int), ()) →
 base_Split_q s0 (46 : Int) (fun x13 =>
 WfPs base_Split_rs (x13, ()) →
 IfB (((x13.length : Int) : Int) != 4)
 (K 0 2)
 (LoopJ (Int × Int × Unit) ((0 : Int), (0 : Int), ()) fun y next =>
 WfY pl_ref07_Parse_8.kinds y →
 ref07_Parse_l8 x13 y.1 y.2.1 next K))))
noncomputable def tab_ref07_Parse : List (Nat × Ct) := [(f_base_Whole, ct_base_Whole), (f_base_Split, ct_base_Split)]
theorem ref07_Parse_eq : (fun (x : PkTs ref07_Parse_ps) (K : PkTs ref07_Parse_rs → Prop) => ref07_Parse_q x.1 (fun r0 r1 => K (r0, r1, ()))) = fun x K => PCode Tryd.prog tab_ref07_Parse plan_ref07_Parse (bodyOf Tryd.f40) (parS ref07_Parse_ps x) (PRet Tryd.prog Tryd.f40.results.toList fun a st => outP ref07_Parse_rs st a K) := by kernel_rfl
theorem ref07_Parse_fq : FnQ Tryd.prog f_ref07_Parse ref07_Parse_ps ref07_Parse_rs (fun x K => ref07_Parse_q x.1 (fun r0 r1 => K (r0, r1, ()))) := (fnQ_of k_ref07_Parse (tab := tab_ref07_Parse) ⟨ct_base_Whole_ok, ct_base_Split_ok, trivial⟩ rfl).of_eq ref07_Parse_eq
noncomputable def ct_ref07_Parse : Ct := ctRd ref07_Parse_ps ref07_Parse_rs (fun x K => ref07_Parse_q x.1 (fun r0 r1 => K (r0, r1, ())))
theorem ct_ref07_Parse_ok : SoundCt Tryd.prog f_ref07_Parse ct_ref07_Parse := ctRd_sound ref07_Parse_fq
def pl_ref21_size_3 : PLoop := ⟨[(3, PK.int .u64), (4, PK.int .i64)], [], none⟩
def plan_ref21_size : PPlan := ⟨[], [(3, pl_ref21_size_3)], [], [], [], []⟩
theorem k_ref21_size : Known Tryd.prog f_ref21_size Tryd.f71 plan_ref21_size.plan (bodyOf Tryd.f71) := ⟨Tryd.func71, by kernel_rfl, by kernel_rfl, by kernel_rfl, by kernel_rfl, by kernel_rfl⟩
abbrev ref21_size_ps : List Pk := [Pk.int .i64]
abbrev ref21_size_rs : List Pk := [Pk.int .u64]
def ref21_size_l3 (s3 : Int) (i4 : Int) (next3 : (Int × Int × Unit) → Prop) (K : Int → Prop) : Prop :=
 IfB (decide ((i4 : Int) < 32))
 (next3 ((IntKind.wrap .u64 (2 * s3)), (IntKind.wrap .i64 (i4 + 1)), ()))
 (K s3)
def ref21_size_q (n0 : Int) (K : Int → Prop) : Prop :=
 LoopJ (Int × Int × Unit) ((1 : Int), (max n0 0), ()) fun y next =>
 WfY pl_ref21_size_3.kinds y →
 ref21_size_l3 y.1 y.2.1 next K
noncomputable def tab_ref21_size : List (Nat × Ct) := []
theorem ref21_size_eq : (fun (x : PkTs ref21_size_ps) (K : PkTs ref21_size_rs → Prop) => ref21_size_q x.1 (fun r0 => K (r0, ()))) = fun x K => PCode Tryd.prog tab_ref21_size plan_ref21_size (bodyOf Tryd.f71) (parS ref21_size_ps x) (PRet Tryd.prog Tryd.f71.results.toList fun a st => outP ref21_size_rs st a K) := by kernel_rfl
theorem ref21_size_fq : FnQ Tryd.prog f_ref21_size ref21_size_ps ref21_size_rs (fun x K => ref21_size_q x.1 (fun r0 => K (r0, ()))) := (fnQ_of k_ref21_size (tab := tab_ref21_size) trivial rfl).of_eq ref21_size_eq
noncomputable def ct_ref21_size : Ct := ctRd ref21_size_ps ref21_size_rs (fun x K => ref21_size_q x.1 (fun r0 => K (r0, ())))
theorem ct_ref21_size_ok : SoundCt Tryd.prog f_ref21_size ct_ref21_size := ctRd_sound ref21_size_fq
def plan_ref21_Right : PPlan := ⟨[(1, [0, 1, 2, 3, 4, 5, 6, 7, 8, 9, 10, 11, 12, 13, 14, 15, 16, 17, 18], [13])], [], [], [], [], []⟩
theorem k_ref21_Right : Known Tryd.prog f_ref21_Right Tryd.f58 plan_ref21_Right.plan (bodyOf Tryd.f58) := ⟨Tryd.func58, by kernel_rfl, by kernel_rfl, by kernel_rfl, by kernel_rfl, by kernel_rfl⟩
abbrev ref21_Right_ps : List Pk := [Pk.agg [Kd.int .u32, Kd.int .i64]]
abbrev ref21_Right_rs : List Pk := [Pk.bool]
def ref21_Right_q (p0 : UInt32 × Int) (K : Bool → Prop) : Prop :=
 IfB (decide ((p0.2 : Int) ≥ 0))
 (IfB (decide ((p0.2 : Int) ≤ 32))
 ((WfPs ref21_size_ps (p0.2, ()) →
 ref21_size_q p0.2 (fun x17 =>
 WfPs ref21_size_rs (x17, ()) →
 (x17 : Int) ≠ 0 ∧
 K (((Int.tmod (IntKind.wrap .u64 (p0.1.toNat : Int)) x17) : Int) == 0))))
 (K false))
 (K false)
noncomputable def tab_ref21_Right : List (Nat × Ct) := [(f_ref21_size, ct_ref21_size)]
theorem ref21_Right_eq : (fun (x : PkTs ref21_Right_ps) (K : PkTs ref21_Right_rs → Prop) => ref21_Right_q x.1 (fun r0 => K (r0, ()))) = fun x K => PCode Tryd.prog tab_ref21_Right plan_ref21_Right (bodyOf Tryd.f58) (parS ref21_Right_ps x) (PRet Tryd.prog Tryd.f58.results.toList fun a st => outP ref21_Right_rs st a K) := by kernel_rfl
theorem ref21_Right_fq : FnQ Tryd.prog f_ref21_Right ref21_Right_ps ref21_Right_rs (fun x K => ref21_Right_q x.1 (fun r0 => K (r0, ()))) := (fnQ_of k_ref21_Right (tab := tab_ref21_Right) ⟨ct_ref21_size_ok, trivial⟩ rfl).of_eq ref21_Right_eq
noncomputable def ct_ref21_Right : Ct := ctRd ref21_Right_ps ref21_Right_rs (fun x K => ref21_Right_q x.1 (fun r0 => K (r0, ())))
theorem ct_ref21_Right_ok : SoundCt Tryd.prog f_ref21_Right ct_ref21_Right := ctRd_sound ref21_Right_fq
def plan_ref21_Parse : PPlan := ⟨[], [], [], [], [], []⟩
theorem k_ref21_Parse : Known Tryd.prog f_ref21_Parse Tryd.f38 plan_ref21_Parse.plan (bodyOf Tryd.f38) := ⟨Tryd.func38, by kernel_rfl, by kernel_rfl, by kernel_rfl, by kernel_rfl, by kernel_rfl⟩
abbrev ref21_Parse_ps : List Pk := [Pk.str]
abbrev ref21_Parse_rs : List Pk := [Pk.agg [Kd.int .u32, Kd.int .i64], Pk.int .i64]
def ref21_Parse_j0 (x24r0 : Int) (x31r0 : Int) (j4 : Bool) (K : (UInt32 × Int) → Int → Prop) : Prop :=
 IfB j4
 (K ((ofI .u32 0), 0) 5)
 (K ((ofI .u32 x24r0), x31r0) 0)
def ref21_Parse_q (s0 : List UInt8) (K : (UInt32 × Int) → Int → Prop) : Prop :=
 IfB (decide (((s0.length : Int) : Int) > 18))
 (K ((ofI .u32 0), 0) 5)
 ((WfPs base_Split_ps (s0, (47 : Int), ()) →
 base_Split_q s0 (47 : Int) (fun x15 =>
 WfPs base_Split_rs (x15, ()) →
 IfB (((x15.length : Int) : Int) != 2)
 (K ((ofI .u32 0), 0) 5)
 ((0 : Int) ≤ 0 ∧ 0 < (x15.length : Int) ∧
 AtN x15 0 fun x23 =>
 WfT ks_str x23 →
 (WfPs ref07_Parse_ps (x23, ()) →
 ref07_Parse_q x23 (fun x24r0 x24r1 =>
 WfPs ref07_Parse_rs (x24r0, x24r1, ()) →
 (0 : Int) ≤ 1 ∧ 1 < (x15.length : Int) ∧
 AtN x15 1 fun x30 =>
 WfT ks_str x30 →
 (WfPs base_Whole_ps (x30, (2 : Int), ()) →
 base_Whole_q x30 (2 : Int) (fun x31r0 x31r1 =>
 WfPs base_Whole_rs (x31r0, x31r1, ()) →
 IfB ((x24r1 : Int) != 0)
 (ref21_Parse_j0 x24r0 x31r0 true K)
 (IfB (!x31r1)
 (ref21_Parse_j0 x24r0 x31r0 true K)
 ((WfPs ref21_Right_ps ((((ofI .u32 x24r0), x31r0) : UInt32 × Int), ()) →
 ref21_Right_q (((ofI .u32 x24r0), x31r0) : UInt32 × Int) (fun x45 =>
 WfPs ref21_Right_rs (x45, ()) →
 ref21_Parse_j0 x24r0 x31r0 (!x45) K))))))))))))
noncomputable def tab_ref21_Parse : List (Nat × Ct) := [(f_base_Whole, ct_base_Whole), (f_base_Split, ct_base_Split), (f_ref07_Parse, ct_ref07_Parse), (f_ref21_Right, ct_ref21_Right)]
theorem ref21_Parse_eq : (fun (x : PkTs ref21_Parse_ps) (K : PkTs ref21_Parse_rs → Prop) => ref21_Parse_q x.1 (fun r0 r1 => K (r0, r1, ()))) = fun x K => PCode Tryd.prog tab_ref21_Parse plan_ref21_Parse (bodyOf Tryd.f38) (parS ref21_Parse_ps x) (PRet Tryd.prog Tryd.f38.results.toList fun a st => outP ref21_Parse_rs st a K) := by kernel_rfl
theorem ref21_Parse_fq : FnQ Tryd.prog f_ref21_Parse ref21_Parse_ps ref21_Parse_rs (fun x K => ref21_Parse_q x.1 (fun r0 r1 => K (r0, r1, ()))) := (fnQ_of k_ref21_Parse (tab := tab_ref21_Parse) ⟨ct_base_Whole_ok, ct_base_Split_ok, ct_ref07_Parse_ok, ct_ref21_Right_ok, trivial⟩ rfl).of_eq ref21_Parse_eq
noncomputable def ct_ref21_Parse : Ct := ctVal ref21_Parse_ps ref21_Parse_rs (fun x K => ref21_Parse_q x.1 (fun r0 r1 => K (r0, r1, ())))
theorem ct_ref21_Parse_ok : SoundCt Tryd.prog f_ref21_Parse ct_ref21_Parse := ctVal_sound ref21_Parse_fq
def plan_ref24_Word : PPlan := ⟨[(8, [0, 1, 2, 3, 4], [41]), (23, [0, 1, 2, 3, 4, 5, 6, 7, 8, 9, 10, 11, 12, 13, 14, 15], [103])], [], [], [(8, [4]), (23, [2])], [], []⟩
theorem k_ref24_Word : Known Tryd.prog f_ref24_Word Tryd.f21 plan_ref24_Word.plan (bodyOf Tryd.f21) := ⟨Tryd.func21, by kernel_rfl, by kernel_rfl, by kernel_rfl, by kernel_rfl, by kernel_rfl⟩
abbrev ref24_Word_ps : List Pk := [Pk.str]
abbrev ref24_Word_rs : List Pk := [Pk.agg [Kd.int .i64, Kd.str, Kd.int .i64, Kd.int .u32, Kd.int .i64, Kd.int .i64], Pk.bool]
def ref24_Word_q (s0 : List UInt8) (K : (Int × List UInt8 × Int × UInt32 × Int × Int) → Bool → Prop) : Prop :=
 (WfPs ref24_all_ps (s0, (48 : Int), ()) →
 ref24_all_q s0 (48 : Int) (fun x19 =>
 WfPs ref24_all_rs (x19, ()) →
 IfB x19
 ((WfPs base_Whole_ps (s0, (10 : Int), ()) →
 base_Whole_q s0 (10 : Int) (fun x22r0 x22r1 =>
 WfPs base_Whole_rs (x22r0, x22r1, ()) →
 IfB x22r1
 (K (2, s0, x22r0, (ofI .u32 0), 0, 0) (decide ((x22r0 : Int) ≤ 4294967295)))
 (K (2, s0, x22r0, (ofI .u32 0), 0, 0) false))))
 ((WfPs ref24_has_ps (s0, (47 : Int), ()) →
 ref24_has_q s0 (47 : Int) (fun x35 =>
 WfPs ref24_has_rs (x35, ()) →
 IfB x35
 ((WfPs ref21_Parse_ps (s0, ()) →
 ref21_Parse_q s0 (fun x38r0 x38r1 =>
 WfPs ref21_Parse_rs (x38r0, x38r1, ()) →
 K (4, s0, 0, (ofI .u32 (x38r0.1.toNat : Int)), x38r0.2, 0) ((x38r1 : Int) == 0))))
 ((WfPs ref24_has_ps (s0, (58 : Int), ()) →
 ref24_has_q s0 (58 : Int) (fun x48 =>
 WfPs ref24_has_rs (x48, ()) →
 IfB x48
 ((WfPs base_Split_ps (s0, (58 : Int), ()) →
 base_Split_q s0 (58 : Int) (fun x50 =>
 WfPs base_Split_rs (x50, ()) →
 IfB (((x50.length : Int) : Int) != 2)
 (K (0, s0, 0, (ofI .u32 0), 0, 0) false)
 ((0 : Int) ≤ 0 ∧ 0 < (x50.length : Int) ∧
 AtN x50 0 fun x58 =>
 WfT ks_str x58 →
 (WfPs base_Whole_ps (x58, (5 : Int), ()) →
 base_Whole_q x58 (5 : Int) (fun x59r0 x59r1 =>
 WfPs base_Whole_rs (x59r0, x59r1, ()) →
 (0 : Int) ≤ 1 ∧ 1 < (x50.length : Int) ∧
 AtN x50 1 fun x65 =>
 WfT ks_str x65 →
 (WfPs base_Whole_ps (x65, (5 : Int), ()) →
 base_Whole_q x65 (5 : Int) (fun x66r0 x66r1 =>
 WfPs base_Whole_rs (x66r0, x66r1, ()) →
 IfB x59r1
 (IfB x66r1
 (IfB (decide ((x59r0 : Int) ≤ 65535))
 (K (5, s0, (IntKind.wrap .i64 ((IntKind.wrap .i64 (65536 * x59r0)) + x66r0)), (ofI .u32 0), 0, 0) (decide ((x66r0 : Int) ≤ 65535)))
 (K (5, s0, (IntKind.wrap .i64 ((IntKind.wrap .i64 (65536 * x59r0)) + x66r0)), (ofI .u32 0), 0, 0) false))
 (K (5, s0, (IntKind.wrap .i64 ((IntKind.wrap .i64 (65536 * x59r0)) + x66r0)), (ofI .u32 0), 0, 0) false))
 (K (5, s0, (IntKind.wrap .i64 ((IntKind.wrap .i64 (65536 * x59r0)) + x66r0)), (ofI .u32 0), 0, 0) false)))))))))
 ((WfPs ref24_all_ps (s0, (46 : Int), ()) →
 ref24_all_q s0 (46 : Int) (fun x89 =>
 WfPs ref24_all_rs (x89, ()) →
 IfB x89
 ((WfPs ref07_Parse_ps (s0, ()) →
 ref07_Parse_q s0 (fun x92r0 x92r1 =>
 WfPs ref07_Parse_rs (x92r0, x92r1, ()) →
 K (3, s0, (IntKind.wrap .i64 x92r0), (ofI .u32 0), 0, 0) ((x92r1 : Int) == 0))))
 ((0 : Int) ≤ 0 ∧ AtN s0 0 fun x105 =>
 (WfPs ref24_letter_ps ((x105.toNat : Int), ()) →
 ref24_letter_q (x105.toNat : Int) (fun x106 =>
 WfPs ref24_letter_rs (x106, ()) →
 IfB x106
 ((WfPs ref24_has_ps (s0, (46 : Int), ()) →
 ref24_has_q s0 (46 : Int) (fun x109 =>
 WfPs ref24_has_rs (x109, ()) →
 IfB (!x109)
 (K (1, s0, 0, (ofI .u32 0), 0, 0) (decide (((s0.length : Int) : Int) ≤ 32)))
 (K (1, s0, 0, (ofI .u32 0), 0, 0) false))))
 (K (1, s0, 0, (ofI .u32 0), 0, 0) false)))))))))))))))
noncomputable def tab_ref24_Word : List (Nat × Ct) := [(f_ref24_letter, ct_ref24_letter), (f_ref24_all, ct_ref24_all), (f_base_Whole, ct_base_Whole), (f_ref24_has, ct_ref24_has), (f_ref21_Parse, ct_ref21_Parse), (f_base_Split, ct_base_Split), (f_ref07_Parse, ct_ref07_Parse)]
theorem ref24_Word_eq : (fun (x : PkTs ref24_Word_ps) (K : PkTs ref24_Word_rs → Prop) => ref24_Word_q x.1 (fun r0 r1 => K (r0, r1, ()))) = fun x K => PCode Tryd.prog tab_ref24_Word plan_ref24_Word (bodyOf Tryd.f21) (parS ref24_Word_ps x) (PRet Tryd.prog Tryd.f21.results.toList fun a st => outP ref24_Word_rs st a K) := by kernel_rfl
theorem ref24_Word_fq : FnQ Tryd.prog f_ref24_Word ref24_Word_ps ref24_Word_rs (fun x K => ref24_Word_q x.1 (fun r0 r1 => K (r0, r1, ()))) := (fnQ_of k_ref24_Word (tab := tab_ref24_Word) ⟨ct_ref24_letter_ok, ct_ref24_all_ok, ct_base_Whole_ok, ct_ref24_has_ok, ct_ref21_Parse_ok, ct_base_Split_ok, ct_ref07_Parse_ok, trivial⟩ rfl).of_eq ref24_Word_eq
noncomputable def ct_ref24_Word : Ct := ctVal ref24_Word_ps ref24_Word_rs (fun x K => ref24_Word_q x.1 (fun r0 r1 => K (r0, r1, ())))
theorem ct_ref24_Word_ok : SoundCt Tryd.prog f_ref24_Word ct_ref24_Word := ctVal_sound ref24_Word_fq
def pl_ref24_Split_6 : PLoop := ⟨[(5, PK.row T_api_Token [Kd.int .i64, Kd.str, Kd.int .i64, Kd.int .u32, Kd.int .i64, Kd.int .i64]), (6, PK.int .i64), (7, PK.int .i64)], [0], none⟩
def pl_ref24_Split_14 : PLoop := ⟨[(7, PK.int .i64)], [0, 5, 6], none⟩
def pl_ref24_Split_22 : PLoop := ⟨[(10, PK.int .i64)], [0, 5, 6, 7, 9], none⟩
def plan_ref24_Split : PPlan := ⟨[], [(6, pl_ref24_Split_6), (14, pl_ref24_Split_14), (22, pl_ref24_Split_22)], [], [], [], []⟩
theorem k_ref24_Split : Known Tryd.prog f_ref24_Split Tryd.f9 plan_ref24_Split.plan (bodyOf Tryd.f9) := ⟨Tryd.func9, by kernel_rfl, by kernel_rfl, by kernel_rfl, by kernel_rfl, by kernel_rfl⟩
abbrev ref24_Split_ps : List Pk := [Pk.str]
abbrev ref24_Split_rs : List Pk := [Pk.own T_api_Token [Kd.int .i64, Kd.str, Kd.int .i64, Kd.int .u32, Kd.int .i64, Kd.int .i64], Pk.int .i64, Pk.int .i64]
def ref24_Split_j3 (text0 : List UInt8) (out5 : List (Int × List UInt8 × Int × UInt32 × Int × Int)) (line6 : Int) (i7_1 : Int) (next6 : (List (Int × List UInt8 × Int × UInt32 × Int × Int) × Int × Int × Unit) → Prop) (next14 : (Int × Unit) → Prop) (K : List (Int × List UInt8 × Int × UInt32 × Int × Int) → Int → Int → Prop) : Prop :=
 next14 ((IntKind.wrap .i64 (i7_1 + 1)), ())
def ref24_Split_j2 (text0 : List UInt8) (out5 : List (Int × List UInt8 × Int × UInt32 × Int × Int)) (line6 : Int) (i7_1 : Int) (next6 : (List (Int × List UInt8 × Int × UInt32 × Int × Int) × Int × Int × Unit) → Prop) (next14 : (Int × Unit) → Prop) (j4_1 : Bool) (K : List (Int × List UInt8 × Int × UInt32 × Int × Int) → Int → Int → Prop) : Prop :=
 IfB j4_1
 (K ([] : List (Int × List UInt8 × Int × UInt32 × Int × Int)) line6 240)
 (ref24_Split_j3 text0 out5 line6 i7_1 next6 next14 K)
def ref24_Split_j1 (text0 : List UInt8) (out5 : List (Int × List UInt8 × Int × UInt32 × Int × Int)) (line6 : Int) (i7_1 : Int) (next6 : (List (Int × List UInt8 × Int × UInt32 × Int × Int) × Int × Int × Unit) → Prop) (next14 : (Int × Unit) → Prop) (j4 : Bool) (K : List (Int × List UInt8 × Int × UInt32 × Int × Int) → Int → Int → Prop) : Prop :=
 IfB j4
 ((0 : Int) ≤ i7_1 ∧ AtN text0 i7_1.toNat fun x52 =>
 IfB (decide (((x52.toNat : Int) : Int) < 32))
 ((0 : Int) ≤ i7_1 ∧ AtN text0 i7_1.toNat fun x63 =>
 ref24_Split_j2 text0 out5 line6 i7_1 next6 next14 (((x63.toNat : Int) : Int) != 9) K)
 ((0 : Int) ≤ i7_1 ∧ AtN text0 i7_1.toNat fun x57 =>
 IfB (decide (((x57.toNat : Int) : Int) > 126))
 ((0 : Int) ≤ i7_1 ∧ AtN text0 i7_1.toNat fun x63_1 =>
 ref24_Split_j2 text0 out5 line6 i7_1 next6 next14 (((x63_1.toNat : Int) : Int) != 9) K)
 (ref24_Split_j2 text0 out5 line6 i7_1 next6 next14 false K)))
 (next6 (out5, line6, i7_1, ()))
def ref24_Split_l14 (text0 : List UInt8) (out5 : List (Int × List UInt8 × Int × UInt32 × Int × Int)) (line6 : Int) (next6 : (List (Int × List UInt8 × Int × UInt32 × Int × Int) × Int × Int × Unit) → Prop) (i7_1 : Int) (next14 : (Int × Unit) → Prop) (K : List (Int × List UInt8 × Int × UInt32 × Int × Int) → Int → Int → Prop) : Prop :=
 IfB (decide ((i7_1 : Int) < (text0.length : Int)))
 ((0 : Int) ≤ i7_1 ∧ AtN text0 i7_1.toNat fun x47 =>
 ref24_Split_j1 text0 out5 line6 i7_1 next6 next14 (((x47.toNat : Int) : Int) != 10) K)
 (ref24_Split_j1 text0 out5 line6 i7_1 next6 next14 false K)
def ref24_Split_j4 (text0 : List UInt8) (out5 : List (Int × List UInt8 × Int × UInt32 × Int × Int)) (line6 : Int) (i7 : Int) (n10 : Int) (next6 : (List (Int × List UInt8 × Int × UInt32 × Int × Int) × Int × Int × Unit) → Prop) (next22 : (Int × Unit) → Prop) (j11 : Bool) (K : List (Int × List UInt8 × Int × UInt32 × Int × Int) → Int → Int → Prop) : Prop :=
 IfB j11
 (next22 ((IntKind.wrap .i64 (n10 + 1)), ()))
 (IfB ((n10 : Int) == 0)
 (K ([] : List (Int × List UInt8 × Int × UInt32 × Int × Int)) line6 240)
 ((0 : Int) ≤ (IntKind.wrap .i64 (i7 + n10)) ∧ (IntKind.wrap .i64 (i7 + n10)) ≤ (text0.length : Int) ∧
 (0 : Int) ≤ i7 ∧ i7 ≤ ((IntKind.wrap .i64 (i7 + n10)).toNat : Int) ∧
 (WfPs ref24_Word_ps (((text0.take ((IntKind.wrap .i64 (i7 + n10)).toNat)).drop i7.toNat), ()) →
 ref24_Word_q ((text0.take ((IntKind.wrap .i64 (i7 + n10)).toNat)).drop i7.toNat) (fun x104r0 x104r1 =>
 WfPs ref24_Word_rs (x104r0, x104r1, ()) →
 IfB (!x104r1)
 (K ([] : List (Int × List UInt8 × Int × UInt32 × Int × Int)) line6 240)
 (IfB (decide (((out5.length : Int) : Int) ≥ 4096))
 (K ([] : List (Int × List UInt8 × Int × UInt32 × Int × Int)) line6 3)
 (out5.length + ([(x104r0.1, x104r0.2.1, x104r0.2.2.1, (ofI .u32 (x104r0.2.2.2.1.toNat : Int)), x104r0.2.2.2.2.1, line6)] : List (Int × List UInt8 × Int × UInt32 × Int × Int)).length ≤ 2513169434820 ∧
 next6 ((out5 ++ ([(x104r0.1, x104r0.2.1, x104r0.2.2.1, (ofI .u32 (x104r0.2.2.2.1.toNat : Int)), x104r0.2.2.2.2.1, line6)] : List (Int × List UInt8 × Int × UInt32 × Int × Int))), line6, (IntKind.wrap .i64 (i7 + n10)), ())))))))
def ref24_Split_l22 (text0 : List UInt8) (out5 : List (Int × List UInt8 × Int × UInt32 × Int × Int)) (line6 : Int) (i7 : Int) (next6 : (List (Int × List UInt8 × Int × UInt32 × Int × Int) × Int × Int × Unit) → Prop) (n10 : Int) (next22 : (Int × Unit) → Prop) (K : List (Int × List UInt8 × Int × UInt32 × Int × Int) → Int → Int → Prop) : Prop :=
 IfB (decide (((IntKind.wrap .i64 (i7 + n10)) : Int) < (text0.length : Int)))
 ((0 : Int) ≤ (IntKind.wrap .i64 (i7 + n10)) ∧ AtN text0 (IntKind.wrap .i64 (i7 + n10)).toNat fun x89 =>
 (WfPs ref24_part_ps ((x89.toNat : Int), ()) →
 ref24_part_q (x89.toNat : Int) (fun x90 =>
 WfPs ref24_part_rs (x90, ()) →
 ref24_Split_j4 text0 out5 line6 i7 n10 next6 next22 x90 K)))
 (ref24_Split_j4 text0 out5 line6 i7 n10 next6 next22 false K)
def ref24_Split_j0 (text0 : List UInt8) (out5 : List (Int × List UInt8 × Int × UInt32 × Int × Int)) (line6 : Int) (i7 : Int) (x23 : UInt8) (next6 : (List (Int × List UInt8 × Int × UInt32 × Int × Int) × Int × Int × Unit) → Prop) (j5 : Bool) (K : List (Int × List UInt8 × Int × UInt32 × Int × Int) → Int → Int → Prop) : Prop :=
 IfB j5
 (next6 (out5, line6, (IntKind.wrap .i64 (i7 + 1)), ()))
 (IfB (((x23.toNat : Int) : Int) == 35)
 (LoopJ (Int × Unit) (i7, ()) fun y next =>
 WfY pl_ref24_Split_14.kinds y →
 ref24_Split_l14 text0 out5 line6 next6 y.1 next K)
 ((0 : Int) ≤ (IntKind.wrap .i64 (i7 + 1)) ∧ (IntKind.wrap .i64 (i7 + 1)) ≤ (text0.length : Int) ∧
 (0 : Int) ≤ i7 ∧ i7 ≤ ((IntKind.wrap .i64 (i7 + 1)).toNat : Int) ∧
 (WfPs ref24_sign_ps ((x23.toNat : Int), ()) →
 ref24_sign_q (x23.toNat : Int) (fun x76 =>
 WfPs ref24_sign_rs (x76, ()) →
 IfB (!x76)
 (LoopJ (Int × Unit) ((0 : Int), ()) fun y next =>
 WfY pl_ref24_Split_22.kinds y →
 ref24_Split_l22 text0 out5 line6 i7 next6 y.1 next K)
 (IfB (decide (((out5.length : Int) : Int) ≥ 4096))
 (K ([] : List (Int × List UInt8 × Int × UInt32 × Int × Int)) line6 3)
 (out5.length + ([(6, ((text0.take ((IntKind.wrap .i64 (i7 + 1)).toNat)).drop i7.toNat), 0, (ofI .u32 0), 0, line6)] : List (Int × List UInt8 × Int × UInt32 × Int × Int)).length ≤ 2513169434820 ∧
 next6 ((out5 ++ ([(6, ((text0.take ((IntKind.wrap .i64 (i7 + 1)).toNat)).drop i7.toNat), 0, (ofI .u32 0), 0, line6)] : List (Int × List UInt8 × Int × UInt32 × Int × Int))), line6, (IntKind.wrap .i64 (i7 + 1)), ())))))))
def ref24_Split_l6 (text0 : List UInt8) (out5 : List (Int × List UInt8 × Int × UInt32 × Int × Int)) (line6 : Int) (i7 : Int) (next6 : (List (Int × List UInt8 × Int × UInt32 × Int × Int) × Int × Int × Unit) → Prop) (K : List (Int × List UInt8 × Int × UInt32 × Int × Int) → Int → Int → Prop) : Prop :=
 IfB (decide ((i7 : Int) < (text0.length : Int)))
 ((0 : Int) ≤ i7 ∧ AtN text0 i7.toNat fun x23 =>
 IfB (((x23.toNat : Int) : Int) == 10)
 (next6 (out5, (IntKind.wrap .i64 (line6 + 1)), (IntKind.wrap .i64 (i7 + 1)), ()))
 (IfB (((x23.toNat : Int) : Int) == 32)
 (ref24_Split_j0 text0 out5 line6 i7 x23 next6 true K)
 (ref24_Split_j0 text0 out5 line6 i7 x23 next6 (((x23.toNat : Int) : Int) == 9) K)))
 (K out5 0 0)
def ref24_Split_q (text0 : List UInt8) (K : List (Int × List UInt8 × Int × UInt32 × Int × Int) → Int → Int → Prop) : Prop :=
 IfB (decide (((text0.length : Int) : Int) > 65536))
 (K ([] : List (Int × List UInt8 × Int × UInt32 × Int × Int)) 0 3)
 (LoopJ (List (Int × List UInt8 × Int × UInt32 × Int × Int) × Int × Int × Unit) (([] : List (Int × List UInt8 × Int × UInt32 × Int × Int)), (1 : Int), (0 : Int), ()) fun y next =>
 WfY pl_ref24_Split_6.kinds y →
 ref24_Split_l6 text0 y.1 y.2.1 y.2.2.1 next K)
noncomputable def tab_ref24_Split : List (Nat × Ct) := [(f_ref24_sign, ct_ref24_sign), (f_ref24_part, ct_ref24_part), (f_ref24_Word, ct_ref24_Word)]
theorem ref24_Split_eq : (fun (x : PkTs ref24_Split_ps) (K : PkTs ref24_Split_rs → Prop) => ref24_Split_q x.1 (fun r0 r1 r2 => K (r0, r1, r2, ()))) = fun x K => PCode Tryd.prog tab_ref24_Split plan_ref24_Split (bodyOf Tryd.f9) (parS ref24_Split_ps x) (PRet Tryd.prog Tryd.f9.results.toList fun a st => outP ref24_Split_rs st a K) := by kernel_rfl
theorem ref24_Split_fq : FnQ Tryd.prog f_ref24_Split ref24_Split_ps ref24_Split_rs (fun x K => ref24_Split_q x.1 (fun r0 r1 r2 => K (r0, r1, r2, ()))) := (fnQ_of k_ref24_Split (tab := tab_ref24_Split) ⟨ct_ref24_sign_ok, ct_ref24_part_ok, ct_ref24_Word_ok, trivial⟩ rfl).of_eq ref24_Split_eq
noncomputable def ct_ref24_Split : Ct := ctVal ref24_Split_ps ref24_Split_rs (fun x K => ref24_Split_q x.1 (fun r0 r1 r2 => K (r0, r1, r2, ())))
theorem ct_ref24_Split_ok : SoundCt Tryd.prog f_ref24_Split ct_ref24_Split := ctVal_sound ref24_Split_fq
def pl_law24_same_4 : PLoop := ⟨[(7, PK.int .i64)], [0, 1, 2], none⟩
def plan_law24_same : PPlan := ⟨[(6, [0, 1, 2, 3, 4, 5, 6, 7, 8, 9, 10, 11], [28])], [(4, pl_law24_same_4)], [], [], [], []⟩
theorem k_law24_same : Known Tryd.prog f_law24_same Tryd.f10 plan_law24_same.plan (bodyOf Tryd.f10) := ⟨Tryd.func10, by kernel_rfl, by kernel_rfl, by kernel_rfl, by kernel_rfl, by kernel_rfl⟩
abbrev law24_same_ps : List Pk := [Pk.lst [Kd.int .i64, Kd.str, Kd.int .i64, Kd.int .u32, Kd.int .i64, Kd.int .i64], Pk.lst [Kd.int .i64, Kd.str, Kd.int .i64, Kd.int .u32, Kd.int .i64, Kd.int .i64], Pk.bool]
abbrev law24_same_rs : List Pk := [Pk.bool]
def law24_same_j0 (a0 : List (Int × List UInt8 × Int × UInt32 × Int × Int)) (b1 : List (Int × List UInt8 × Int × UInt32 × Int × Int)) (lines2 : Bool) (i7 : Int) (x23 : Int × List UInt8 × Int × UInt32 × Int × Int) (x27 : Int × List UInt8 × Int × UInt32 × Int × Int) (next4 : (Int × Unit) → Prop) (j9 : Int) (j15 : Int) (K : Bool → Prop) : Prop :=
 IfB (!(((x23.1 : Int) == x27.1) && ((x23.2.1 == x27.2.1) && (((x23.2.2.1 : Int) == x27.2.2.1) && (((((x23.2.2.2.1.toNat : Int) : Int) == (x27.2.2.2.1.toNat : Int)) && (((x23.2.2.2.2.1 : Int) == x27.2.2.2.2.1) && true)) && (((j9 : Int) == j15) && true))))))
 (K false)
 (next4 ((IntKind.wrap .i64 (i7 + 1)), ()))
def law24_same_l4 (a0 : List (Int × List UInt8 × Int × UInt32 × Int × Int)) (b1 : List (Int × List UInt8 × Int × UInt32 × Int × Int)) (lines2 : Bool) (i7 : Int) (next4 : (Int × Unit) → Prop) (K : Bool → Prop) : Prop :=
 IfB (decide ((i7 : Int) < (a0.length : Int)))
 ((0 : Int) ≤ i7 ∧ AtN a0 i7.toNat fun x23 =>
 WfT ks_2 x23 →
 (0 : Int) ≤ i7 ∧ AtN b1 i7.toNat fun x27 =>
 WfT ks_2 x27 →
 IfB (!lines2)
 (law24_same_j0 a0 b1 lines2 i7 x23 x27 next4 0 0 K)
 (law24_same_j0 a0 b1 lines2 i7 x23 x27 next4 x23.2.2.2.2.2 x27.2.2.2.2.2 K))
 (K true)
def law24_same_q (a0 : List (Int × List UInt8 × Int × UInt32 × Int × Int)) (b1 : List (Int × List UInt8 × Int × UInt32 × Int × Int)) (lines2 : Bool) (K : Bool → Prop) : Prop :=
 IfB (((a0.length : Int) : Int) != (b1.length : Int))
 (K false)
 (LoopJ (Int × Unit) ((0 : Int), ()) fun y next =>
 WfY pl_law24_same_4.kinds y →
 law24_same_l4 a0 b1 lines2 y.1 next K)
noncomputable def tab_law24_same : List (Nat × Ct) := []
theorem law24_same_eq : (fun (x : PkTs law24_same_ps) (K : PkTs law24_same_rs → Prop) => law24_same_q x.1 x.2.1 x.2.2.1 (fun r0 => K (r0, ()))) = fun x K => PCode Tryd.prog tab_law24_same plan_law24_same (bodyOf Tryd.f10) (parS law24_same_ps x) (PRet Tryd.prog Tryd.f10.results.toList fun a st => outP law24_same_rs st a K) := by kernel_rfl
theorem law24_same_fq : FnQ Tryd.prog f_law24_same law24_same_ps law24_same_rs (fun x K => law24_same_q x.1 x.2.1 x.2.2.1 (fun r0 => K (r0, ()))) := (fnQ_of k_law24_same (tab := tab_law24_same) trivial rfl).of_eq law24_same_eq
noncomputable def ct_law24_same : Ct := ctRd law24_same_ps law24_same_rs (fun x K => law24_same_q x.1 x.2.1 x.2.2.1 (fun r0 => K (r0, ())))
theorem ct_law24_same_ok : SoundCt Tryd.prog f_law24_same ct_law24_same := ctRd_sound law24_same_fq
def plan_law24_works : PPlan := ⟨[], [], [], [], [], []⟩
theorem k_law24_works : Known Tryd.prog f_law24_works Tryd.f11 plan_law24_works.plan (bodyOf Tryd.f11) := ⟨Tryd.func11, by kernel_rfl, by kernel_rfl, by kernel_rfl, by kernel_rfl, by kernel_rfl⟩
abbrev law24_works_ps : List Pk := []
abbrev law24_works_rs : List Pk := [Pk.bool]
def law24_works_q  (K : Bool → Prop) : Prop :=
 (WfPs lex_Split_ps (([112, 101, 101, 114, 32, 97, 32, 49, 48, 46, 48, 46, 48, 46, 50, 59] : List UInt8), ()) →
 lex_Split_q ([112, 101, 101, 114, 32, 97, 32, 49, 48, 46, 48, 46, 48, 46, 50, 59] : List UInt8) (fun x5r0 x5r1 x5r2 =>
 WfPs lex_Split_rs (x5r0, x5r1, x5r2, ()) →
 IfB ((x5r2 : Int) == 0)
 ((WfPs law24_same_ps (x5r0, ([(1, ([112, 101, 101, 114] : List UInt8), 0, (ofI .u32 0), 0, 0), (1, ([97] : List UInt8), 0, (ofI .u32 0), 0, 0), (3, ([49, 48, 46, 48, 46, 48, 46, 50] : List UInt8), 167772162, (ofI .u32 0), 0, 0), (6, ([59] : List UInt8), 0, (ofI .u32 0), 0, 0)] : List (Int × List UInt8 × Int × UInt32 × Int × Int)), false, ()) →
 law24_same_q x5r0 ([(1, ([112, 101, 101, 114] : List UInt8), 0, (ofI .u32 0), 0, 0), (1, ([97] : List UInt8), 0, (ofI .u32 0), 0, 0), (3, ([49, 48, 46, 48, 46, 48, 46, 50] : List UInt8), 167772162, (ofI .u32 0), 0, 0), (6, ([59] : List UInt8), 0, (ofI .u32 0), 0, 0)] : List (Int × List UInt8 × Int × UInt32 × Int × Int)) false (fun x18 =>
 WfPs law24_same_rs (x18, ()) →
 K x18)))
 (K false)))
noncomputable def tab_law24_works : List (Nat × Ct) := [(f_lex_Split, ct_lex_Split), (f_law24_same, ct_law24_same)]
theorem law24_works_eq : (fun (x : PkTs law24_works_ps) (K : PkTs law24_works_rs → Prop) => law24_works_q  (fun r0 => K (r0, ()))) = fun x K => PCode Tryd.prog tab_law24_works plan_law24_works (bodyOf Tryd.f11) (parS law24_works_ps x) (PRet Tryd.prog Tryd.f11.results.toList fun a st => outP law24_works_rs st a K) := by kernel_rfl
theorem law24_works_fq : FnQ Tryd.prog f_law24_works law24_works_ps law24_works_rs (fun x K => law24_works_q  (fun r0 => K (r0, ()))) := (fnQ_of k_law24_works (tab := tab_law24_works) ⟨ct_lex_Split_ok, ct_law24_same_ok, trivial⟩ rfl).of_eq law24_works_eq
noncomputable def ct_law24_works : Ct := ctRd law24_works_ps law24_works_rs (fun x K => law24_works_q  (fun r0 => K (r0, ())))
theorem ct_law24_works_ok : SoundCt Tryd.prog f_law24_works ct_law24_works := ctRd_sound law24_works_fq
def plan_law24_LexSplits : PPlan := ⟨[], [], [], [], [], []⟩
theorem k_law24_LexSplits : Known Tryd.prog f_law24_LexSplits Tryd.f3 plan_law24_LexSplits.plan (bodyOf Tryd.f3) := ⟨Tryd.func3, by kernel_rfl, by kernel_rfl, by kernel_rfl, by kernel_rfl, by kernel_rfl⟩
abbrev law24_LexSplits_ps : List Pk := [Pk.str]
abbrev law24_LexSplits_rs : List Pk := [Pk.bool]
def law24_LexSplits_q (s0 : List UInt8) (K : Bool → Prop) : Prop :=
 (WfPs law24_short_ps (s0, ()) →
 law24_short_q s0 (fun x10 =>
 WfPs law24_short_rs (x10, ()) →
 (WfPs lex_Split_ps (x10, ()) →
 lex_Split_q x10 (fun x13r0 x13r1 x13r2 =>
 WfPs lex_Split_rs (x13r0, x13r1, x13r2, ()) →
 (WfPs ref24_Split_ps (x10, ()) →
 ref24_Split_q x10 (fun x19r0 x19r1 x19r2 =>
 WfPs ref24_Split_rs (x19r0, x19r1, x19r2, ()) →
 (WfPs law24_same_ps (x13r0, x19r0, true, ()) →
 law24_same_q x13r0 x19r0 true (fun x25 =>
 WfPs law24_same_rs (x25, ()) →
 IfB x25
 (IfB ((x13r1 : Int) == x19r1)
 (IfB ((x13r2 : Int) == x19r2)
 ((WfPs law24_works_ps (()) →
 law24_works_q  (fun x37 =>
 WfPs law24_works_rs (x37, ()) →
 K x37)))
 (K false))
 (K false))
 (K false)))))))))
noncomputable def tab_law24_LexSplits : List (Nat × Ct) := [(f_law24_short, ct_law24_short), (f_lex_Split, ct_lex_Split), (f_ref24_Split, ct_ref24_Split), (f_law24_same, ct_law24_same), (f_law24_works, ct_law24_works)]
theorem law24_LexSplits_eq : (fun (x : PkTs law24_LexSplits_ps) (K : PkTs law24_LexSplits_rs → Prop) => law24_LexSplits_q x.1 (fun r0 => K (r0, ()))) = fun x K => PCode Tryd.prog tab_law24_LexSplits plan_law24_LexSplits (bodyOf Tryd.f3) (parS law24_LexSplits_ps x) (PRet Tryd.prog Tryd.f3.results.toList fun a st => outP law24_LexSplits_rs st a K) := by kernel_rfl
theorem law24_LexSplits_fq : FnQ Tryd.prog f_law24_LexSplits law24_LexSplits_ps law24_LexSplits_rs (fun x K => law24_LexSplits_q x.1 (fun r0 => K (r0, ()))) := (fnQ_of k_law24_LexSplits (tab := tab_law24_LexSplits) ⟨ct_law24_short_ok, ct_lex_Split_ok, ct_ref24_Split_ok, ct_law24_same_ok, ct_law24_works_ok, trivial⟩ rfl).of_eq law24_LexSplits_eq
noncomputable def ct_law24_LexSplits : Ct := ctRd law24_LexSplits_ps law24_LexSplits_rs (fun x K => law24_LexSplits_q x.1 (fun r0 => K (r0, ())))
theorem ct_law24_LexSplits_ok : SoundCt Tryd.prog f_law24_LexSplits ct_law24_LexSplits := ctRd_sound law24_LexSplits_fq
def plan_base_Among : PPlan := ⟨[], [], [], [], [], []⟩
theorem k_base_Among : Known Tryd.prog f_base_Among Tryd.f12 plan_base_Among.plan (bodyOf Tryd.f12) := ⟨Tryd.func12, by kernel_rfl, by kernel_rfl, by kernel_rfl, by kernel_rfl, by kernel_rfl⟩
abbrev base_Among_ps : List Pk := [Pk.int .i64, Pk.int .i64]
abbrev base_Among_rs : List Pk := [Pk.int .i64]
def base_Among_q (x0 : Int) (n1 : Int) (K : Int → Prop) : Prop :=
 IfB (decide ((n1 : Int) < 1))
 (K 0)
 (((IntKind.wrap .u64 n1) : Int) ≠ 0 ∧
 K (IntKind.wrap .i64 (Int.tmod (IntKind.wrap .u64 x0) (IntKind.wrap .u64 n1))))
noncomputable def tab_base_Among : List (Nat × Ct) := []
theorem base_Among_eq : (fun (x : PkTs base_Among_ps) (K : PkTs base_Among_rs → Prop) => base_Among_q x.1 x.2.1 (fun r0 => K (r0, ()))) = fun x K => PCode Tryd.prog tab_base_Among plan_base_Among (bodyOf Tryd.f12) (parS base_Among_ps x) (PRet Tryd.prog Tryd.f12.results.toList fun a st => outP base_Among_rs st a K) := by kernel_rfl
theorem base_Among_fq : FnQ Tryd.prog f_base_Among base_Among_ps base_Among_rs (fun x K => base_Among_q x.1 x.2.1 (fun r0 => K (r0, ()))) := (fnQ_of k_base_Among (tab := tab_base_Among) trivial rfl).of_eq base_Among_eq
noncomputable def ct_base_Among : Ct := ctRd base_Among_ps base_Among_rs (fun x K => base_Among_q x.1 x.2.1 (fun r0 => K (r0, ())))
theorem ct_base_Among_ok : SoundCt Tryd.prog f_base_Among ct_base_Among := ctRd_sound base_Among_fq
def pl_law24_LexFull_6 : PLoop := ⟨[(4, PK.row T_uint8 [Kd.int .u8]), (5, PK.int .i64)], [3], none⟩
def plan_law24_LexFull : PPlan := ⟨[], [(6, pl_law24_LexFull_6)], [], [], [], []⟩
theorem k_law24_LexFull : Known Tryd.prog f_law24_LexFull Tryd.f4 plan_law24_LexFull.plan (bodyOf Tryd.f4) := ⟨Tryd.func4, by kernel_rfl, by kernel_rfl, by kernel_rfl, by kernel_rfl, by kernel_rfl⟩
abbrev law24_LexFull_ps : List Pk := [Pk.int .i64]
abbrev law24_LexFull_rs : List Pk := [Pk.bool]
def law24_LexFull_l6 (x12 : Int) (b4 : List UInt8) (i5 : Int) (next6 : (List UInt8 × Int × Unit) → Prop) (K : Bool → Prop) : Prop :=
 IfB (decide ((i5 : Int) < (IntKind.wrap .i64 (4094 + x12))))
 ((0 : Int) ≤ i5 ∧ i5 < (b4.length : Int) ∧
 AtN b4 i5.toNat fun el =>
 WfT ks_int_u8 el →
 next6 ((b4.set i5.toNat (ofI .u8 59)), (IntKind.wrap .i64 (i5 + 1)), ()))
 ((WfPs lex_Split_ps (b4, ()) →
 lex_Split_q b4 (fun x27r0 x27r1 x27r2 =>
 WfPs lex_Split_rs (x27r0, x27r1, x27r2, ()) →
 IfB (((x27r2 : Int) == 0) == (decide (((IntKind.wrap .i64 (4094 + x12)) : Int) ≤ 4096)))
 (IfB ((x27r2 : Int) == 0)
 (IfB (((x27r0.length : Int) : Int) == (IntKind.wrap .i64 (4094 + x12)))
 (K true)
 (IfB ((x27r2 : Int) == 3)
 (K (((x27r0.length : Int) : Int) == 0))
 (K false)))
 (IfB ((x27r2 : Int) == 3)
 (K (((x27r0.length : Int) : Int) == 0))
 (K false)))
 (K false))))
def law24_LexFull_q (more0 : Int) (K : Bool → Prop) : Prop :=
 (WfPs law24_works_ps (()) →
 law24_works_q  (fun x9 =>
 WfPs law24_works_rs (x9, ()) →
 IfB (!x9)
 (K false)
 ((WfPs base_Among_ps (more0, (5 : Int), ()) →
 base_Among_q more0 (5 : Int) (fun x12 =>
 WfPs base_Among_rs (x12, ()) →
 (0 : Int) ≤ (IntKind.wrap .i64 (4094 + x12)) ∧ ((IntKind.wrap .i64 (4094 + x12)) : Int) ≤ (IntKind.wrap .i64 (4094 + x12)) ∧ ((IntKind.wrap .i64 (4094 + x12)) : Int) ≤ 1000000000 ∧
 LoopJ (List UInt8 × Int × Unit) ((List.replicate (IntKind.wrap .i64 (4094 + x12)).toNat ((ofI .u8 0) : UInt8)), (0 : Int), ()) fun y next =>
 WfY pl_law24_LexFull_6.kinds y →
 law24_LexFull_l6 x12 y.1 y.2.1 next K)))))
noncomputable def tab_law24_LexFull : List (Nat × Ct) := [(f_lex_Split, ct_lex_Split), (f_law24_works, ct_law24_works), (f_base_Among, ct_base_Among)]
theorem law24_LexFull_eq : (fun (x : PkTs law24_LexFull_ps) (K : PkTs law24_LexFull_rs → Prop) => law24_LexFull_q x.1 (fun r0 => K (r0, ()))) = fun x K => PCode Tryd.prog tab_law24_LexFull plan_law24_LexFull (bodyOf Tryd.f4) (parS law24_LexFull_ps x) (PRet Tryd.prog Tryd.f4.results.toList fun a st => outP law24_LexFull_rs st a K) := by kernel_rfl
theorem law24_LexFull_fq : FnQ Tryd.prog f_law24_LexFull law24_LexFull_ps law24_LexFull_rs (fun x K => law24_LexFull_q x.1 (fun r0 => K (r0, ()))) := (fnQ_of k_law24_LexFull (tab := tab_law24_LexFull) ⟨ct_lex_Split_ok, ct_law24_works_ok, ct_base_Among_ok, trivial⟩ rfl).of_eq law24_LexFull_eq
noncomputable def ct_law24_LexFull : Ct := ctRd law24_LexFull_ps law24_LexFull_rs (fun x K => law24_LexFull_q x.1 (fun r0 => K (r0, ())))
theorem ct_law24_LexFull_ok : SoundCt Tryd.prog f_law24_LexFull ct_law24_LexFull := ctRd_sound law24_LexFull_fq
def pl_law24_LexBlanks_9 : PLoop := ⟨[(8, PK.str), (9, PK.int .i64)], [1, 5], none⟩
def plan_law24_LexBlanks : PPlan := ⟨[], [(9, pl_law24_LexBlanks_9)], [], [], [], []⟩
theorem k_law24_LexBlanks : Known Tryd.prog f_law24_LexBlanks Tryd.f5 plan_law24_LexBlanks.plan (bodyOf Tryd.f5) := ⟨Tryd.func5, by kernel_rfl, by kernel_rfl, by kernel_rfl, by kernel_rfl, by kernel_rfl⟩
abbrev law24_LexBlanks_ps : List Pk := [Pk.str, Pk.lst [Kd.int .i64]]
abbrev law24_LexBlanks_rs : List Pk := [Pk.bool]
def law24_LexBlanks_j1 (blanks1 : List Int) (x20r0 : List (Int × List UInt8 × Int × UInt32 × Int × Int)) (t8 : List UInt8) (i9 : Int) (next9 : (List UInt8 × Int × Unit) → Prop) (j4 : Int) (K : Bool → Prop) : Prop :=
 (0 : Int) ≤ i9 ∧ i9 < (x20r0.length : Int) ∧
 AtN x20r0 i9.toNat fun x51 =>
 WfT ks_2 x51 →
 (0 : Int) ≤ j4 ∧ j4 < (([([32] : List UInt8), ([10] : List UInt8), ([9, 32, 32] : List UInt8), ([32, 35, 32, 97, 32, 114, 101, 109, 97, 114, 107, 59, 32, 123, 10] : List UInt8), ([10, 10, 35, 10] : List UInt8)] : List (List UInt8)).length : Int) ∧
 AtN ([([32] : List UInt8), ([10] : List UInt8), ([9, 32, 32] : List UInt8), ([32, 35, 32, 97, 32, 114, 101, 109, 97, 114, 107, 59, 32, 123, 10] : List UInt8), ([10, 10, 35, 10] : List UInt8)] : List (List UInt8)) j4.toNat fun x55 =>
 WfT ks_str x55 →
 x51.2.1.length + x55.length ≤ lenMax ∧
 t8.length + (x51.2.1 ++ x55).length ≤ lenMax ∧
 next9 ((t8 ++ (x51.2.1 ++ x55)), (IntKind.wrap .i64 (i9 + 1)), ())
def law24_LexBlanks_l9 (blanks1 : List Int) (x20r0 : List (Int × List UInt8 × Int × UInt32 × Int × Int)) (t8 : List UInt8) (i9 : Int) (next9 : (List UInt8 × Int × Unit) → Prop) (K : Bool → Prop) : Prop :=
 IfB (decide ((i9 : Int) < (x20r0.length : Int)))
 (IfB (decide ((i9 : Int) < (blanks1.length : Int)))
 ((0 : Int) ≤ i9 ∧ AtN blanks1 i9.toNat fun x43 =>
 WfT ks_int_i64 x43 →
 (WfPs base_Among_ps (x43, (5 : Int), ()) →
 base_Among_q x43 (5 : Int) (fun x45 =>
 WfPs base_Among_rs (x45, ()) →
 law24_LexBlanks_j1 blanks1 x20r0 t8 i9 next9 x45 K)))
 (law24_LexBlanks_j1 blanks1 x20r0 t8 i9 next9 0 K))
 ((WfPs lex_Split_ps (t8, ()) →
 lex_Split_q t8 (fun x60r0 x60r1 x60r2 =>
 WfPs lex_Split_rs (x60r0, x60r1, x60r2, ()) →
 IfB ((x60r2 : Int) == 0)
 ((WfPs law24_same_ps (x20r0, x60r0, false, ()) →
 law24_same_q x20r0 x60r0 false (fun x69 =>
 WfPs law24_same_rs (x69, ()) →
 K x69)))
 (K false))))
def law24_LexBlanks_j0 (blanks1 : List Int) (x20r0 : List (Int × List UInt8 × Int × UInt32 × Int × Int)) (j2 : Bool) (K : Bool → Prop) : Prop :=
 IfB j2
 (K true)
 (LoopJ (List UInt8 × Int × Unit) (([] : List UInt8), (0 : Int), ()) fun y next =>
 WfY pl_law24_LexBlanks_9.kinds y →
 law24_LexBlanks_l9 blanks1 x20r0 y.1 y.2.1 next K)
def law24_LexBlanks_q (s0 : List UInt8) (blanks1 : List Int) (K : Bool → Prop) : Prop :=
 (WfPs law24_works_ps (()) →
 law24_works_q  (fun x14 =>
 WfPs law24_works_rs (x14, ()) →
 IfB (!x14)
 (K false)
 ((WfPs law24_short_ps (s0, ()) →
 law24_short_q s0 (fun x17 =>
 WfPs law24_short_rs (x17, ()) →
 (WfPs lex_Split_ps (x17, ()) →
 lex_Split_q x17 (fun x20r0 x20r1 x20r2 =>
 WfPs lex_Split_rs (x20r0, x20r1, x20r2, ()) →
 IfB ((x20r2 : Int) != 0)
 (law24_LexBlanks_j0 blanks1 x20r0 true K)
 (law24_LexBlanks_j0 blanks1 x20r0 (decide (((x20r0.length : Int) : Int) > 100)) K))))))))
noncomputable def tab_law24_LexBlanks : List (Nat × Ct) := [(f_law24_short, ct_law24_short), (f_lex_Split, ct_lex_Split), (f_law24_same, ct_law24_same), (f_law24_works, ct_law24_works), (f_base_Among, ct_base_Among)]
theorem law24_LexBlanks_eq : (fun (x : PkTs law24_LexBlanks_ps) (K : PkTs law24_LexBlanks_rs → Prop) => law24_LexBlanks_q x.1 x.2.1 (fun r0 => K (r0, ()))) = fun x K => PCode Tryd.prog tab_law24_LexBlanks plan_law24_LexBlanks (bodyOf Tryd.f5) (parS law24_LexBlanks_ps x) (PRet Tryd.prog Tryd.f5.results.toList fun a st => outP law24_LexBlanks_rs st a K) := by kernel_rfl
theorem law24_LexBlanks_fq : FnQ Tryd.prog f_law24_LexBlanks law24_LexBlanks_ps law24_LexBlanks_rs (fun x K => law24_LexBlanks_q x.1 x.2.1 (fun r0 => K (r0, ()))) := (fnQ_of k_law24_LexBlanks (tab := tab_law24_LexBlanks) ⟨ct_law24_short_ok, ct_lex_Split_ok, ct_law24_same_ok, ct_law24_works_ok, ct_base_Among_ok, trivial⟩ rfl).of_eq law24_LexBlanks_eq
noncomputable def ct_law24_LexBlanks : Ct := ctRd law24_LexBlanks_ps law24_LexBlanks_rs (fun x K => law24_LexBlanks_q x.1 x.2.1 (fun r0 => K (r0, ())))
theorem ct_law24_LexBlanks_ok : SoundCt Tryd.prog f_law24_LexBlanks ct_law24_LexBlanks := ctRd_sound law24_LexBlanks_fq
end Go.Proofs.YtaeiblfdmlapoaaDoor
