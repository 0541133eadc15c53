/-
  SOME FUNCTIONS IN PLAIN LOGIC: printed by a program of ours over this translation.
-/
import Derived.Test.YtcnbolonnlmlgaaDoorNum
import Derived.Test.YtcnbolonnlmlgaaDoorRows
set_option maxRecDepth 100000
set_option linter.unusedVariables false
namespace Go.Proofs.YtcnbolonnlmlgaaDoor
open Go.Sh
def hplan_lex_Join : Plan := ⟨[], [(3, [8], [.int .i64], [3, 6, 7])], [], []⟩
theorem hk_lex_Join : Known Tryd.prog f_lex_Join Tryd.f7 hplan_lex_Join (bodyOf Tryd.f7) := ⟨Tryd.func7, by kernel_rfl, by kernel_rfl, by kernel_rfl, by kernel_rfl, by kernel_rfl⟩
def lex_Join_j0 (s3b : Nat) (t5b : Nat) (l0a : Option Addr) (l0n : Nat) (l0c : Nat) (x8 : Int) (next3 : (Int × Unit) → Heap → Prop) (H11 : Heap) (R : Value → Heap → Prop) : Prop :=
 ∃ x17 : ByteArray, H11.cell ⟨t5b, 1, none⟩ = some (Value.string x17) ∧
 FnW Tryd.prog f_strings_Builder_WriteString ⟨[(Value.pointer (some ⟨s3b, 0, none⟩)), (Value.string x17)]⟩ H11 fun x18v H12 =>
 ∃ x18r0 : Int, ∃ x18r1 : Value, x18v = (Value.tuple ⟨[(Value.int .i64 x18r0), x18r1]⟩) ∧
 next3 ((IntKind.wrap .i64 (x8 + 1)), ()) H12
def lex_Join_l3 (s3b : Nat) (l0a : Option Addr) (l0n : Nat) (l0c : Nat) (x8 : Int) (H2 : Heap) (next3 : (Int × Unit) → Heap → Prop) (R : Value → Heap → Prop) : Prop :=
 IfB (decide ((x8 : Int) < (l0n : Int)))
 (NilP l0a fun x11q =>
 InB x8 l0n fun x11i =>
 elemAt x11q x11i 6 fun x11p =>
 ∃ x12c0 : Int, H2.cell x11p = some (Value.int .i64 x12c0) ∧ ∃ x12c1 : ByteArray, H2.cell ⟨x11p.block, x11p.off + 1, none⟩ = some (Value.string x12c1) ∧ ∃ x12c2 : Int, H2.cell ⟨x11p.block, x11p.off + 2, none⟩ = some (Value.int .i64 x12c2) ∧ ∃ x12c3 : Int, H2.cell ⟨x11p.block, x11p.off + 3, none⟩ = some (Value.int .u32 x12c3) ∧ ∃ x12c4 : Int, H2.cell ⟨x11p.block, x11p.off + 4, none⟩ = some (Value.int .i64 x12c4) ∧ ∃ x12c5 : Int, H2.cell ⟨x11p.block, x11p.off + 5, none⟩ = some (Value.int .i64 x12c5) ∧ NewW H2 (Obj.cells ⟨[(Value.int .i64 0), (Value.string (ByteArray.mk #[])), (Value.int .i64 0), (Value.int .u32 0), (Value.int .i64 0), (Value.int .i64 0)]⟩ T_api_Token) fun t5b H3 =>
 StCell H3 ⟨t5b, 0, none⟩ (Value.int .i64 x12c0) fun H4 =>
 StCell H4 ⟨t5b, 1, none⟩ (Value.string x12c1) fun H5 =>
 StCell H5 ⟨t5b, 2, none⟩ (Value.int .i64 x12c2) fun H6 =>
 StCell H6 ⟨t5b, 3, none⟩ (Value.int .u32 x12c3) fun H7 =>
 StCell H7 ⟨t5b, 4, none⟩ (Value.int .i64 x12c4) fun H8 =>
 StCell H8 ⟨t5b, 5, none⟩ (Value.int .i64 x12c5) fun H9 =>
 IfB (decide ((x8 : Int) > 0))
 (FnW Tryd.prog f_strings_Builder_WriteByte ⟨[(Value.pointer (some ⟨s3b, 0, none⟩)), (Value.int .u8 32)]⟩ H9 fun x15v H10 =>
 ∃ x15 : Value, x15v = x15 ∧
 lex_Join_j0 s3b t5b l0a l0n l0c x8 next3 H10 R)
 (lex_Join_j0 s3b t5b l0a l0n l0c x8 next3 H9 R))
 (FnW Tryd.prog f_strings_Builder_String ⟨[(Value.pointer (some ⟨s3b, 0, none⟩))]⟩ H2 fun x20v H13 =>
 ∃ x20 : ByteArray, x20v = (Value.string x20) ∧
 R (Value.string x20) H13)
def lex_Join_p (l0a : Option Addr) (l0n : Nat) (l0c : Nat) (H : Heap) (R : Value → Heap → Prop) : Prop :=
 NewW H (Obj.cells ⟨[(Value.pointer none), (Value.slice none 0 0)]⟩ T_strings_Builder) fun s3b H1 =>
 LoopI (Int × Unit) (0, ()) H1 fun x H next => ∀ _g : Env, lex_Join_l3 s3b l0a l0n l0c x.1 H next R
theorem lex_Join_heq (l0a : Option Addr) (l0n : Nat) (l0c : Nat) (H : Heap) (R : Value → Heap → Prop) : lex_Join_p l0a l0n l0c H R = CodeW Tryd.prog hplan_lex_Join (bodyOf Tryd.f7) (env0 [(Value.slice l0a l0n l0c)]) H (RetW Tryd.prog Tryd.f7.results.toList R) := by kernel_rfl
theorem lex_Join_sh (l0a : Option Addr) (l0n : Nat) (l0c : Nat) {H : Heap} {R : Value → Heap → Prop} (h : lex_Join_p l0a l0n l0c H fun v H1 => ∀ H2, Shut H H1 H2 → R v H2) : FnW Tryd.prog f_lex_Join ⟨[(Value.slice l0a l0n l0c)]⟩ H R := FnW.of_code hk_lex_Join (by kernel_rfl) (Eq.mp (lex_Join_heq l0a l0n l0c H _) h)
def hplan_strings_Builder_WriteByte : Plan := ⟨[], [], [], []⟩
theorem hk_strings_Builder_WriteByte : Known Tryd.prog f_strings_Builder_WriteByte Tryd.f14 hplan_strings_Builder_WriteByte (bodyOf Tryd.f14) := ⟨Tryd.func14, by kernel_rfl, by kernel_rfl, by kernel_rfl, by kernel_rfl, by kernel_rfl⟩
def strings_Builder_WriteByte_p (b0b : Nat) (c1 : Int) (H : Heap) (R : Value → Heap → Prop) : Prop :=
 FnW Tryd.prog f_strings_Builder_copyCheck ⟨[(Value.pointer (some ⟨b0b, 0, none⟩))]⟩ H fun x6v H1 =>
 x6v = (Value.tuple ⟨[]⟩) ∧
 ∃ (x11a : Option Addr) (x11n x11c : Nat), H1.cell ⟨b0b, 1, none⟩ = some (Value.slice x11a x11n x11c) ∧
 NewW H1 (Obj.cells ⟨[(Value.int .u8 c1)]⟩ T_uint8) fun x13b H2 =>
 AppW Tryd.prog #[T_sl_uint8, T_sl_uint8] T_sl_uint8 [(Value.slice x11a x11n x11c), (Value.slice (some ⟨x13b, 0, none⟩) 1 1)] H2 fun x14v H3 =>
 ∃ (x14a : Option Addr) (x14n x14c : Nat), x14v = (Value.slice x14a x14n x14c) ∧
 StCell H3 ⟨b0b, 1, none⟩ (Value.slice x14a x14n x14c) fun H4 =>
 R (Value.nilIface) H4
theorem strings_Builder_WriteByte_heq (b0b : Nat) (c1 : Int) (H : Heap) (R : Value → Heap → Prop) : strings_Builder_WriteByte_p b0b c1 H R = CodeW Tryd.prog hplan_strings_Builder_WriteByte (bodyOf Tryd.f14) (env0 [(Value.pointer (some ⟨b0b, 0, none⟩)), (Value.int .u8 c1)]) H (RetW Tryd.prog Tryd.f14.results.toList R) := by kernel_rfl
theorem strings_Builder_WriteByte_sh (b0b : Nat) (c1 : Int) {H : Heap} {R : Value → Heap → Prop} (h : strings_Builder_WriteByte_p b0b c1 H fun v H1 => ∀ H2, Shut H H1 H2 → R v H2) : FnW Tryd.prog f_strings_Builder_WriteByte ⟨[(Value.pointer (some ⟨b0b, 0, none⟩)), (Value.int .u8 c1)]⟩ H R := FnW.of_code hk_strings_Builder_WriteByte (by kernel_rfl) (Eq.mp (strings_Builder_WriteByte_heq b0b c1 H _) h)
def hplan_strings_Builder_WriteString : Plan := ⟨[], [], [], []⟩
theorem hk_strings_Builder_WriteString : Known Tryd.prog f_strings_Builder_WriteString Tryd.f15 hplan_strings_Builder_WriteString (bodyOf Tryd.f15) := ⟨Tryd.func15, by kernel_rfl, by kernel_rfl, by kernel_rfl, by kernel_rfl, by kernel_rfl⟩
def strings_Builder_WriteString_p (b0b : Nat) (s1 : ByteArray) (H : Heap) (R : Value → Heap → Prop) : Prop :=
 FnW Tryd.prog f_strings_Builder_copyCheck ⟨[(Value.pointer (some ⟨b0b, 0, none⟩))]⟩ H fun x7v H1 =>
 x7v = (Value.tuple ⟨[]⟩) ∧
 ∃ (x12a : Option Addr) (x12n x12c : Nat), H1.cell ⟨b0b, 1, none⟩ = some (Value.slice x12a x12n x12c) ∧
 AppW Tryd.prog #[T_sl_uint8, T_string] T_sl_uint8 [(Value.slice x12a x12n x12c), (Value.string s1)] H1 fun x14v H2 =>
 ∃ (x14a : Option Addr) (x14n x14c : Nat), x14v = (Value.slice x14a x14n x14c) ∧
 StCell H2 ⟨b0b, 1, none⟩ (Value.slice x14a x14n x14c) fun H3 =>
 R (Value.tuple ⟨[(Value.int .i64 (s1.size : Int)), (Value.nilIface)]⟩) H3
theorem strings_Builder_WriteString_heq (b0b : Nat) (s1 : ByteArray) (H : Heap) (R : Value → Heap → Prop) : strings_Builder_WriteString_p b0b s1 H R = CodeW Tryd.prog hplan_strings_Builder_WriteString (bodyOf Tryd.f15) (env0 [(Value.pointer (some ⟨b0b, 0, none⟩)), (Value.string s1)]) H (RetW Tryd.prog Tryd.f15.results.toList R) := by kernel_rfl
theorem strings_Builder_WriteString_sh (b0b : Nat) (s1 : ByteArray) {H : Heap} {R : Value → Heap → Prop} (h : strings_Builder_WriteString_p b0b s1 H fun v H1 => ∀ H2, Shut H H1 H2 → R v H2) : FnW Tryd.prog f_strings_Builder_WriteString ⟨[(Value.pointer (some ⟨b0b, 0, none⟩)), (Value.string s1)]⟩ H R := FnW.of_code hk_strings_Builder_WriteString (by kernel_rfl) (Eq.mp (strings_Builder_WriteString_heq b0b s1 H _) h)
def hplan_strings_Builder_String : Plan := ⟨[(1, [0, 1, 2, 3, 5, 6, 7, 8, 9, 4, 10, 11], [11])], [], [], []⟩
theorem hk_strings_Builder_String : Known Tryd.prog f_strings_Builder_String Tryd.f16 hplan_strings_Builder_String (bodyOf Tryd.f16) := ⟨Tryd.func16, by kernel_rfl, by kernel_rfl, by kernel_rfl, by kernel_rfl, by kernel_rfl⟩
def strings_Builder_String_p (b0b : Nat) (H : Heap) (R : Value → Heap → Prop) : Prop :=
 ∃ bs : List Nat, (∀ b ∈ bs, ∃ o, H b = some o) ∧
 ∃ (x6a : Option Addr) (x6n x6c : Nat), H.cell ⟨b0b, 1, none⟩ = some (Value.slice x6a x6n x6c) ∧
 b0b ∈ bs ∧ ∃ (x11a : Option Addr) (x11n x11c : Nat), H.cell ⟨b0b, 1, none⟩ = some (Value.slice x11a x11n x11c) ∧
 SemW Tryd.prog (Builtin.unsafeSliceData_ #[T_sl_uint8] T_p_uint8 ⟨[(Value.slice x6a x6n x6c)]⟩) H fun x7v H1 =>
 ∃ x7 : Option Addr, x7v = (Value.pointer x7) ∧
 KeptIn bs H H1 ∧ SemW Tryd.prog (Builtin.unsafeString_ #[T_p_uint8, T_int] T_string ⟨[(Value.pointer x7), (Value.int .i64 (x11n : Int))]⟩) H1 fun x13v H2 =>
 ∃ x13 : ByteArray, x13v = (Value.string x13) ∧
 R (Value.string x13) H2
theorem strings_Builder_String_heq (b0b : Nat) (H : Heap) (R : Value → Heap → Prop) : strings_Builder_String_p b0b H R = CodeW Tryd.prog hplan_strings_Builder_String (bodyOf Tryd.f16) (env0 [(Value.pointer (some ⟨b0b, 0, none⟩))]) H (RetW Tryd.prog Tryd.f16.results.toList R) := by kernel_rfl
theorem strings_Builder_String_sh (b0b : Nat) {H : Heap} {R : Value → Heap → Prop} (h : strings_Builder_String_p b0b H fun v H1 => ∀ H2, Shut H H1 H2 → R v H2) : FnW Tryd.prog f_strings_Builder_String ⟨[(Value.pointer (some ⟨b0b, 0, none⟩))]⟩ H R := FnW.of_code hk_strings_Builder_String (by kernel_rfl) (Eq.mp (strings_Builder_String_heq b0b H _) h)
def hplan_strings_Builder_copyCheck : Plan := ⟨[], [], [], []⟩
theorem hk_strings_Builder_copyCheck : Known Tryd.prog f_strings_Builder_copyCheck Tryd.f25 hplan_strings_Builder_copyCheck (bodyOf Tryd.f25) := ⟨Tryd.func25, by kernel_rfl, by kernel_rfl, by kernel_rfl, by kernel_rfl, by kernel_rfl⟩
def strings_Builder_copyCheck_p (b0b : Nat) (H : Heap) (R : Value → Heap → Prop) : Prop :=
 ∃ x5 : Option Addr, H.cell ⟨b0b, 0, none⟩ = some (Value.pointer x5) ∧
 IfB x5.isNone
 (SemW Tryd.prog (convert T_p_strings_Builder T_unsafe_Pointer (Value.pointer (some ⟨b0b, 0, none⟩))) H fun x9v H1 =>
 ∃ x9 : Value, x9v = x9 ∧
 ExtW Tryd.prog f_internal_abi_NoEscape ⟨[x9]⟩ H1 fun x10v H2 =>
 ∃ x10 : Value, x10v = x10 ∧
 SemW Tryd.prog (convert T_unsafe_Pointer T_p_strings_Builder x10) H2 fun x11v H3 =>
 ∃ x11 : Option Addr, x11v = (Value.pointer x11) ∧
 StCell H3 ⟨b0b, 0, none⟩ (Value.pointer x11) fun H4 =>
 R (Value.tuple ⟨[]⟩) H4)
 (∃ x17 : Option Addr, H.cell ⟨b0b, 0, none⟩ = some (Value.pointer x17) ∧
 EqB Tryd.prog T_p_strings_Builder (Value.pointer x17) (Value.pointer (some ⟨b0b, 0, none⟩)) fun x19 =>
 IfB (!x19)
 (False)
 (R (Value.tuple ⟨[]⟩) H))
theorem strings_Builder_copyCheck_heq (b0b : Nat) (H : Heap) (R : Value → Heap → Prop) : strings_Builder_copyCheck_p b0b H R = CodeW Tryd.prog hplan_strings_Builder_copyCheck (bodyOf Tryd.f25) (env0 [(Value.pointer (some ⟨b0b, 0, none⟩))]) H (RetW Tryd.prog Tryd.f25.results.toList R) := by kernel_rfl
theorem strings_Builder_copyCheck_sh (b0b : Nat) {H : Heap} {R : Value → Heap → Prop} (h : strings_Builder_copyCheck_p b0b H fun v H1 => ∀ H2, Shut H H1 H2 → R v H2) : FnW Tryd.prog f_strings_Builder_copyCheck ⟨[(Value.pointer (some ⟨b0b, 0, none⟩))]⟩ H R := FnW.of_code hk_strings_Builder_copyCheck (by kernel_rfl) (Eq.mp (strings_Builder_copyCheck_heq b0b H _) h)
end Go.Proofs.YtcnbolonnlmlgaaDoor
