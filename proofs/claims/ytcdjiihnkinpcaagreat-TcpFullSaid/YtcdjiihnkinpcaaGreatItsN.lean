/-
  PIECES OF FUNCTIONS IN PLAIN LOGIC: printed by a program of ours over this translation.
-/
import Derived.Test.YtcdjiihnkinpcaaGreatNum
import Derived.Test.YtcdjiihnkinpcaaGreatSh16
set_option maxRecDepth 100000
set_option linter.unusedVariables false
namespace Go.Proofs.YtcdjiihnkinpcaaGreat
open Go.Sh
def hplan_slices_AppendSeqasl_int_int : Plan := ⟨[], [], [], []⟩
theorem hk_slices_AppendSeqasl_int_int : Known Tryz.prog f_slices_AppendSeqasl_int_int Tryz.f171 hplan_slices_AppendSeqasl_int_int (bodyOf Tryz.f171) := ⟨Tryz.func171, by kernel_rfl, by kernel_rfl, by kernel_rfl, by kernel_rfl, by kernel_rfl⟩
def slices_AppendSeqasl_int_int_a_p (s0a : Option Addr) (s0n : Nat) (s0c : Nat) (seq1 : Value) (H : Heap) (K : Value → Value → Heap → Prop) (R : Value → Heap → Prop) : Prop :=
 NewW H (Obj.cells ⟨[(Value.slice s0a s0n s0c)]⟩ T_sl_int) fun s2b H1 =>
 K seq1 (Value.pointer (some ⟨s2b, 0, none⟩)) H1
theorem slices_AppendSeqasl_int_int_a_heq (ρ : Env) (s0a : Option Addr) (s0n : Nat) (s0c : Nat) (seq1 : Value) (H : Heap) (K : Value → Value → Heap → Prop) (R : Value → Heap → Prop) : slices_AppendSeqasl_int_int_a_p s0a s0n s0c seq1 H K R = CodeW Tryz.prog hplan_slices_AppendSeqasl_int_int (cL (bodyOf Tryz.f171)) (put (put ρ (some 0) (Value.slice s0a s0n s0c)) (some 1) seq1) H (pieceQ (fun ρ H => K (ρ 1) (ρ 2) H) (RetW Tryz.prog Tryz.f171.results.toList R)) := by kernel_rfl
def slices_AppendSeqasl_int_int_c_p (seq1 : Value) (s2 : Value) (H : Heap) (K : Value → Value → Heap → Prop) (R : Value → Heap → Prop) : Prop :=
 K s2 seq1 H
theorem slices_AppendSeqasl_int_int_c_heq (ρ : Env) (seq1 : Value) (s2 : Value) (H : Heap) (K : Value → Value → Heap → Prop) (R : Value → Heap → Prop) : slices_AppendSeqasl_int_int_c_p seq1 s2 H K R = CodeW Tryz.prog hplan_slices_AppendSeqasl_int_int (cL (cL (cR (bodyOf Tryz.f171)))) (put (put ρ (some 1) seq1) (some 2) s2) H (pieceQ (fun ρ H => K (ρ 2) (ρ 6) H) (RetW Tryz.prog Tryz.f171.results.toList R)) := by kernel_rfl
def slices_AppendSeqasl_int_int_e_p (s2b : Nat) (x7 : Int) (H : Heap) (K : Value → Value → Heap → Prop) (R : Value → Heap → Prop) : Prop :=
 K (Value.pointer (some ⟨s2b, 0, none⟩)) (Value.int .i64 x7) H
theorem slices_AppendSeqasl_int_int_e_heq (ρ : Env) (s2b : Nat) (x7 : Int) (H : Heap) (K : Value → Value → Heap → Prop) (R : Value → Heap → Prop) : slices_AppendSeqasl_int_int_e_p s2b x7 H K R = CodeW Tryz.prog hplan_slices_AppendSeqasl_int_int (cA (cK (cR (cL (cR (bodyOf Tryz.f171)))))) (put (put ρ (some 2) (Value.pointer (some ⟨s2b, 0, none⟩))) (some 7) (Value.int .i64 x7)) H (pieceQ (fun ρ H => K (ρ 2) (ρ 5) H) (RetW Tryz.prog Tryz.f171.results.toList R)) := by kernel_rfl
def slices_AppendSeqasl_int_int_r_p (s2b : Nat) (v5 : Int) (H : Heap) (K : Heap → Prop) (R : Value → Heap → Prop) : Prop :=
 ∃ (x8a : Option Addr) (x8n x8c : Nat), H.cell ⟨s2b, 0, none⟩ = some (Value.slice x8a x8n x8c) ∧
 NewW H (Obj.cells ⟨[(Value.int .i64 v5)]⟩ T_int) fun x10b H1 =>
 AppW Tryz.prog #[T_sl_int, T_sl_int] T_sl_int [(Value.slice x8a x8n x8c), (Value.slice (some ⟨x10b, 0, none⟩) 1 1)] H1 fun x11v H2 =>
 ∃ (x11a : Option Addr) (x11n x11c : Nat), x11v = (Value.slice x11a x11n x11c) ∧
 StCell H2 ⟨s2b, 0, none⟩ (Value.slice x11a x11n x11c) fun H3 =>
 K H3
theorem slices_AppendSeqasl_int_int_r_heq (ρ : Env) (s2b : Nat) (v5 : Int) (H : Heap) (K : Heap → Prop) (R : Value → Heap → Prop) : slices_AppendSeqasl_int_int_r_p s2b v5 H K R = CodeW Tryz.prog hplan_slices_AppendSeqasl_int_int (cB (cK (cR (cL (cR (bodyOf Tryz.f171)))))) (put (put ρ (some 2) (Value.pointer (some ⟨s2b, 0, none⟩))) (some 5) (Value.int .i64 v5)) H (pieceQ (fun ρ H => K H) (RetW Tryz.prog Tryz.f171.results.toList R)) := by kernel_rfl
def slices_AppendSeqasl_int_int_z_p (s2b : Nat) (H : Heap) (K : Heap → Prop) (R : Value → Heap → Prop) : Prop :=
 ∃ (x12a : Option Addr) (x12n x12c : Nat), H.cell ⟨s2b, 0, none⟩ = some (Value.slice x12a x12n x12c) ∧
 R (Value.slice x12a x12n x12c) H
theorem slices_AppendSeqasl_int_int_z_heq (ρ : Env) (s2b : Nat) (H : Heap) (K : Heap → Prop) (R : Value → Heap → Prop) : slices_AppendSeqasl_int_int_z_p s2b H K R = CodeW Tryz.prog hplan_slices_AppendSeqasl_int_int (cR (cR (bodyOf Tryz.f171))) (put ρ (some 2) (Value.pointer (some ⟨s2b, 0, none⟩))) H (pieceQ (fun ρ H => K H) (RetW Tryz.prog Tryz.f171.results.toList R)) := by kernel_rfl
end Go.Proofs.YtcdjiihnkinpcaaGreat
