/-
  PIECES OF FUNCTIONS IN PLAIN LOGIC: printed by a program of ours over this translation.
-/
import Derived.Test.YtflfamhboalgiaaDoorBA
import Derived.Test.YtflfamhboalgiaaDoorEB
import Derived.Test.YtflfamhboalgiaaDoorPA
import Derived.Test.YtflfamhboalgiaaDoorED
set_option linter.all false
section
set_option maxRecDepth 100000
namespace Go.Proofs.YtflfamhboalgiaaDoor
open Go.Sh
def Zck : Plan := ⟨[], [], [], []⟩
theorem Zcbf : Known Tryd.prog Zke Tryd.f11 Zck (Zd Tryd.f11) := by refine ⟨Tryd.func11, ?_, ?_, ?_, ?_, ?_⟩ <;> kernel_rfl
def Zcrc (s0 : ByteArray) (H : Heap) (K : Value -> Heap -> Prop) (R : Value -> Heap -> Prop) : Prop :=
 K (Value.string s0) H
theorem Zcaq (ρ : Env) (s0 : ByteArray) (H : Heap) (K : Value -> Heap -> Prop) (R : Value -> Heap -> Prop) : Zcrc s0 H K R = Za Tryd.prog Zck (cL (Zd Tryd.f11)) (put ρ (some 0) (Value.string s0)) H (Zco (fun ρ H => K (ρ 0) H) (RetW Tryd.prog Tryd.f11.results.toList R)) := by kernel_rfl
def Zcdn (s0 : ByteArray) (H : Heap) (K : Value -> Value -> Heap -> Prop) (R : Value -> Heap -> Prop) : Prop :=
 NewW H (Obj.cells ⟨[(Value.slice none 0 0)]⟩ Zq) fun p4b H1 =>
 K (Value.string s0) (Value.pointer (some ⟨p4b, 0, none⟩)) H1
theorem Zcug (ρ : Env) (s0 : ByteArray) (H : Heap) (K : Value -> Value -> Heap -> Prop) (R : Value -> Heap -> Prop) : Zcdn s0 H K R = Za Tryd.prog Zck (cL (cS (cR (Zd Tryd.f11)))) (put ρ (some 0) (Value.string s0)) H (Zco (fun ρ H => K (ρ 0) (ρ 4) H) (RetW Tryd.prog Tryd.f11.results.toList R)) := by kernel_rfl
def Zbnh (s0 : ByteArray) (p4b : Nat) (H : Heap) (K : Value -> Value -> Heap -> Prop) (R : Value -> Heap -> Prop) : Prop :=
 IfB (s0.toList == (ByteArray.mk #[]).toList)
 (∃ (x14a : Option Addr) (x14n x14c : Nat), H.cell ⟨p4b, 0, none⟩ = some (Value.slice x14a x14n x14c) ∧
 R (Value.tuple ⟨[(Value.slice x14a x14n x14c), (Value.int .i64 0)]⟩) H)
 (K (Value.string s0) (Value.pointer (some ⟨p4b, 0, none⟩)) H)
theorem Zcov (ρ : Env) (s0 : ByteArray) (p4b : Nat) (H : Heap) (K : Value -> Value -> Heap -> Prop) (R : Value -> Heap -> Prop) : Zbnh s0 p4b H K R = Za Tryd.prog Zck (cL (cR (cS (cR (Zd Tryd.f11))))) (put (put ρ (some 0) (Value.string s0)) (some 4) (Value.pointer (some ⟨p4b, 0, none⟩))) H (Zco (fun ρ H => K (ρ 0) (ρ 4) H) (RetW Tryd.prog Tryd.f11.results.toList R)) := by kernel_rfl
def Zcip (s0 : ByteArray) (p4b : Nat) (H : Heap) (K : Value -> Value -> Value -> Heap -> Prop) (R : Value -> Heap -> Prop) : Prop :=
 NewW H (Obj.cells ⟨[(Value.bool false)]⟩ Zeu) fun in5b H1 =>
 Zt H1 ⟨in5b, 0, none⟩ (Value.bool false) fun H2 =>
 K (Value.string s0) (Value.pointer (some ⟨p4b, 0, none⟩)) (Value.pointer (some ⟨in5b, 0, none⟩)) H2
theorem Zctw (ρ : Env) (s0 : ByteArray) (p4b : Nat) (H : Heap) (K : Value -> Value -> Value -> Heap -> Prop) (R : Value -> Heap -> Prop) : Zcip s0 p4b H K R = Za Tryd.prog Zck (cL (cR (cR (cS (cR (Zd Tryd.f11)))))) (put (put ρ (some 0) (Value.string s0)) (some 4) (Value.pointer (some ⟨p4b, 0, none⟩))) H (Zco (fun ρ H => K (ρ 0) (ρ 4) (ρ 5) H) (RetW Tryd.prog Tryd.f11.results.toList R)) := by kernel_rfl
def Zctd (s0 : ByteArray) (p4b : Nat) (in5b : Nat) (H : Heap) (K : Value -> Value -> Value -> Heap -> Prop) (R : Value -> Heap -> Prop) : Prop :=
 FnW Tryd.prog Zxh ⟨[(Value.string s0), (Value.string (ByteArray.mk #[32]))]⟩ H fun x16v H1 =>
 ∃ x16 : Value, x16v = x16 ∧
 K (Value.pointer (some ⟨p4b, 0, none⟩)) (Value.pointer (some ⟨in5b, 0, none⟩)) x16 H1
theorem Zcgj (ρ : Env) (s0 : ByteArray) (p4b : Nat) (in5b : Nat) (H : Heap) (K : Value -> Value -> Value -> Heap -> Prop) (R : Value -> Heap -> Prop) : Zctd s0 p4b in5b H K R = Za Tryd.prog Zck (cL (cL (cR (cR (cR (cS (cR (Zd Tryd.f11)))))))) (put (put (put ρ (some 0) (Value.string s0)) (some 4) (Value.pointer (some ⟨p4b, 0, none⟩))) (some 5) (Value.pointer (some ⟨in5b, 0, none⟩))) H (Zco (fun ρ H => K (ρ 4) (ρ 5) (ρ 16) H) (RetW Tryd.prog Tryd.f11.results.toList R)) := by kernel_rfl
def Zcor (x17 : Value) (p4 : Value) (in5 : Value) (H : Heap) (K : Value -> Value -> Value -> Heap -> Prop) (R : Value -> Heap -> Prop) : Prop :=
 K p4 in5 x17 H
theorem Zcqq (ρ : Env) (x17 : Value) (p4 : Value) (in5 : Value) (H : Heap) (K : Value -> Value -> Value -> Heap -> Prop) (R : Value -> Heap -> Prop) : Zcor x17 p4 in5 H K R = Za Tryd.prog Zck (cA (cK (cR (cL (cR (cR (cR (cS (cR (Zd Tryd.f11)))))))))) (put (put (put ρ (some 17) x17) (some 4) p4) (some 5) in5) H (Zco (fun ρ H => K (ρ 4) (ρ 5) (ρ 6) H) (RetW Tryd.prog Tryd.f11.results.toList R)) := by kernel_rfl
def Zcfl (p4b : Nat) (in5b : Nat) (w6 : ByteArray) (H : Heap) (K : Value -> Value -> Value -> Value -> Heap -> Prop) (R : Value -> Heap -> Prop) : Prop :=
 FnW Tryd.prog Zyy ⟨[(Value.string w6), (Value.string (ByteArray.mk #[123]))]⟩ H fun x20v H1 =>
 ∃ x20r0 : ByteArray, ∃ x20r1 : Bool, x20v = (Value.tuple ⟨[(Value.string x20r0), (Value.bool x20r1)]⟩) ∧
 K (Value.pointer (some ⟨p4b, 0, none⟩)) (Value.pointer (some ⟨in5b, 0, none⟩)) (Value.string x20r0) (Value.bool x20r1) H1
theorem Zcmr (ρ : Env) (p4b : Nat) (in5b : Nat) (w6 : ByteArray) (H : Heap) (K : Value -> Value -> Value -> Value -> Heap -> Prop) (R : Value -> Heap -> Prop) : Zcfl p4b in5b w6 H K R = Za Tryd.prog Zck (cL (cK (cB (cK (cR (cL (cR (cR (cR (cS (cR (Zd Tryd.f11)))))))))))) (put (put (put ρ (some 4) (Value.pointer (some ⟨p4b, 0, none⟩))) (some 5) (Value.pointer (some ⟨in5b, 0, none⟩))) (some 6) (Value.string w6)) H (Zco (fun ρ H => K (ρ 4) (ρ 5) (ρ 7) (ρ 8) H) (RetW Tryd.prog Tryd.f11.results.toList R)) := by kernel_rfl
def Zcsv (p4b : Nat) (in5b : Nat) (w7 : ByteArray) (opens8 : Bool) (H : Heap) (K : Value -> Value -> Value -> Value -> Value -> Heap -> Prop) (R : Value -> Heap -> Prop) : Prop :=
 FnW Tryd.prog Ztq ⟨[(Value.string w7), (Value.string (ByteArray.mk #[125]))]⟩ H fun x25v H1 =>
 ∃ x25r0 : ByteArray, ∃ x25r1 : Bool, x25v = (Value.tuple ⟨[(Value.string x25r0), (Value.bool x25r1)]⟩) ∧
 K (Value.pointer (some ⟨p4b, 0, none⟩)) (Value.pointer (some ⟨in5b, 0, none⟩)) (Value.string x25r0) (Value.bool opens8) (Value.bool x25r1) H1
theorem Zcoo (ρ : Env) (p4b : Nat) (in5b : Nat) (w7 : ByteArray) (opens8 : Bool) (H : Heap) (K : Value -> Value -> Value -> Value -> Value -> Heap -> Prop) (R : Value -> Heap -> Prop) : Zcsv p4b in5b w7 opens8 H K R = Za Tryd.prog Zck (cL (cR (cK (cB (cK (cR (cL (cR (cR (cR (cS (cR (Zd Tryd.f11))))))))))))) (put (put (put (put ρ (some 4) (Value.pointer (some ⟨p4b, 0, none⟩))) (some 5) (Value.pointer (some ⟨in5b, 0, none⟩))) (some 7) (Value.string w7)) (some 8) (Value.bool opens8)) H (Zco (fun ρ H => K (ρ 4) (ρ 5) (ρ 7) (ρ 8) (ρ 9) H) (RetW Tryd.prog Tryd.f11.results.toList R)) := by kernel_rfl
def Zcvf (p4b : Nat) (in5b : Nat) (w7 : ByteArray) (opens8 : Bool) (closes9 : Bool) (H : Heap) (K : Value -> Value -> Value -> Value -> Value -> Heap -> Prop) (R : Value -> Heap -> Prop) : Prop :=
 FnW Tryd.prog Zuv ⟨[(Value.string w7)]⟩ H fun x29v H1 =>
 ∃ x29 : Int, x29v = (Value.int .u32 x29) ∧
 K (Value.pointer (some ⟨p4b, 0, none⟩)) (Value.pointer (some ⟨in5b, 0, none⟩)) (Value.bool opens8) (Value.bool closes9) (Value.int .u32 x29) H1
theorem Zcqv (ρ : Env) (p4b : Nat) (in5b : Nat) (w7 : ByteArray) (opens8 : Bool) (closes9 : Bool) (H : Heap) (K : Value -> Value -> Value -> Value -> Value -> Heap -> Prop) (R : Value -> Heap -> Prop) : Zcvf p4b in5b w7 opens8 closes9 H K R = Za Tryd.prog Zck (cL (cR (cR (cK (cB (cK (cR (cL (cR (cR (cR (cS (cR (Zd Tryd.f11)))))))))))))) (put (put (put (put (put ρ (some 4) (Value.pointer (some ⟨p4b, 0, none⟩))) (some 5) (Value.pointer (some ⟨in5b, 0, none⟩))) (some 7) (Value.string w7)) (some 8) (Value.bool opens8)) (some 9) (Value.bool closes9)) H (Zco (fun ρ H => K (ρ 4) (ρ 5) (ρ 8) (ρ 9) (ρ 10) H) (RetW Tryd.prog Tryd.f11.results.toList R)) := by kernel_rfl
def Zbro (p4b : Nat) (in5b : Nat) (opens8 : Bool) (closes9 : Bool) (as10 : Int) (H : Heap) (K : Value -> Value -> Value -> Value -> Value -> Value -> Heap -> Prop) (R : Value -> Heap -> Prop) : Prop :=
 IfB ((as10 : Int) == 0)
 (K (Value.pointer (some ⟨p4b, 0, none⟩)) (Value.pointer (some ⟨in5b, 0, none⟩)) (Value.bool opens8) (Value.bool closes9) (Value.int .u32 as10) (Value.bool true) H)
 (IfB opens8
 (∃ x35 : Bool, H.cell ⟨in5b, 0, none⟩ = some (Value.bool x35) ∧
 IfB x35
 (K (Value.pointer (some ⟨p4b, 0, none⟩)) (Value.pointer (some ⟨in5b, 0, none⟩)) (Value.bool opens8) (Value.bool closes9) (Value.int .u32 as10) (Value.bool true) H)
 (IfB closes9
 (∃ x41 : Bool, H.cell ⟨in5b, 0, none⟩ = some (Value.bool x41) ∧
 IfB (!x41)
 (K (Value.pointer (some ⟨p4b, 0, none⟩)) (Value.pointer (some ⟨in5b, 0, none⟩)) (Value.bool opens8) (Value.bool closes9) (Value.int .u32 as10) (Value.bool (!opens8)) H)
 (K (Value.pointer (some ⟨p4b, 0, none⟩)) (Value.pointer (some ⟨in5b, 0, none⟩)) (Value.bool opens8) (Value.bool closes9) (Value.int .u32 as10) (Value.bool false) H))
 (K (Value.pointer (some ⟨p4b, 0, none⟩)) (Value.pointer (some ⟨in5b, 0, none⟩)) (Value.bool opens8) (Value.bool closes9) (Value.int .u32 as10) (Value.bool false) H)))
 (IfB closes9
 (∃ x41_1 : Bool, H.cell ⟨in5b, 0, none⟩ = some (Value.bool x41_1) ∧
 IfB (!x41_1)
 (K (Value.pointer (some ⟨p4b, 0, none⟩)) (Value.pointer (some ⟨in5b, 0, none⟩)) (Value.bool opens8) (Value.bool closes9) (Value.int .u32 as10) (Value.bool (!opens8)) H)
 (K (Value.pointer (some ⟨p4b, 0, none⟩)) (Value.pointer (some ⟨in5b, 0, none⟩)) (Value.bool opens8) (Value.bool closes9) (Value.int .u32 as10) (Value.bool false) H))
 (K (Value.pointer (some ⟨p4b, 0, none⟩)) (Value.pointer (some ⟨in5b, 0, none⟩)) (Value.bool opens8) (Value.bool closes9) (Value.int .u32 as10) (Value.bool false) H)))
theorem Zcti (ρ : Env) (p4b : Nat) (in5b : Nat) (opens8 : Bool) (closes9 : Bool) (as10 : Int) (H : Heap) (K : Value -> Value -> Value -> Value -> Value -> Value -> Heap -> Prop) (R : Value -> Heap -> Prop) : Zbro p4b in5b opens8 closes9 as10 H K R = Za Tryd.prog Zck (cL (cL (cR (cR (cR (cK (cB (cK (cR (cL (cR (cR (cR (cS (cR (Zd Tryd.f11)))))))))))))))) (put (put (put (put (put ρ (some 4) (Value.pointer (some ⟨p4b, 0, none⟩))) (some 5) (Value.pointer (some ⟨in5b, 0, none⟩))) (some 8) (Value.bool opens8)) (some 9) (Value.bool closes9)) (some 10) (Value.int .u32 as10)) H (Zco (fun ρ H => K (ρ 4) (ρ 5) (ρ 8) (ρ 9) (ρ 10) (ρ 48) H) (RetW Tryd.prog Tryd.f11.results.toList R)) := by kernel_rfl
def Zblf (p4b : Nat) (in5b : Nat) (opens8 : Bool) (closes9 : Bool) (as10 : Int) (x77p : Addr) (K : Value -> Value -> Heap -> Prop) (H6 : Heap) (R : Value -> Heap -> Prop) : Prop :=
 ∃ (x82a : Option Addr) (x82n x82c : Nat), H6.cell ⟨x77p.block, x77p.off + 1, none⟩ = some (Value.slice x82a x82n x82c) ∧
 NewW H6 (Obj.cells ⟨[(Value.int .u32 as10)]⟩ Zl) fun x84b H7 =>
 AppW Tryd.prog #[Zbt, Zbt] Zbt [(Value.slice x82a x82n x82c), (Value.slice (some ⟨x84b, 0, none⟩) 1 1)] H7 fun x85v H8 =>
 ∃ (x85a : Option Addr) (x85n x85c : Nat), x85v = (Value.slice x85a x85n x85c) ∧
 Zt H8 ⟨x77p.block, x77p.off + 1, none⟩ (Value.slice x85a x85n x85c) fun H9 =>
 ∃ x88 : Bool, H9.cell ⟨in5b, 0, none⟩ = some (Value.bool x88) ∧
 IfB x88
 (Zt H9 ⟨in5b, 0, none⟩ (Value.bool (!closes9)) fun H10 =>
 K (Value.pointer (some ⟨p4b, 0, none⟩)) (Value.pointer (some ⟨in5b, 0, none⟩)) H10)
 (IfB opens8
 (Zt H9 ⟨in5b, 0, none⟩ (Value.bool (!closes9)) fun H11 =>
 K (Value.pointer (some ⟨p4b, 0, none⟩)) (Value.pointer (some ⟨in5b, 0, none⟩)) H11)
 (Zt H9 ⟨in5b, 0, none⟩ (Value.bool false) fun H12 =>
 K (Value.pointer (some ⟨p4b, 0, none⟩)) (Value.pointer (some ⟨in5b, 0, none⟩)) H12))
def Zxd (p4b : Nat) (in5b : Nat) (opens8 : Bool) (closes9 : Bool) (as10 : Int) (K : Value -> Value -> Heap -> Prop) (H5 : Heap) (R : Value -> Heap -> Prop) : Prop :=
 ∃ (x73a : Option Addr) (x73n x73c : Nat), H5.cell ⟨p4b, 0, none⟩ = some (Value.slice x73a x73n x73c) ∧
 ∃ (x74a : Option Addr) (x74n x74c : Nat), H5.cell ⟨p4b, 0, none⟩ = some (Value.slice x74a x74n x74c) ∧
 NilP x73a fun x77q =>
 InB (IntKind.wrap .i64 ((x74n : Int) - 1)) x73n fun x77i =>
 elemAt x77q x77i 2 fun x77p =>
 Zblf p4b in5b opens8 closes9 as10 x77p K H5 R
def Zoh (p4b : Nat) (in5b : Nat) (opens8 : Bool) (closes9 : Bool) (as10 : Int) (K : Value -> Value -> Heap -> Prop) (x67 : Bool) (H1 : Heap) (R : Value -> Heap -> Prop) : Prop :=
 IfB x67
 (∃ (x68a : Option Addr) (x68n x68c : Nat), H1.cell ⟨p4b, 0, none⟩ = some (Value.slice x68a x68n x68c) ∧
 NewW H1 (Obj.cells ⟨[(Value.bool opens8), (Value.slice none 0 0)]⟩ Zh) fun x71b H2 =>
 AppW Tryd.prog #[Zq, Zq] Zq [(Value.slice x68a x68n x68c), (Value.slice (some ⟨x71b, 0, none⟩) 1 1)] H2 fun x72v H3 =>
 ∃ (x72a : Option Addr) (x72n x72c : Nat), x72v = (Value.slice x72a x72n x72c) ∧
 Zt H3 ⟨p4b, 0, none⟩ (Value.slice x72a x72n x72c) fun H4 =>
 Zxd p4b in5b opens8 closes9 as10 K H4 R)
 (Zxd p4b in5b opens8 closes9 as10 K H1 R)
def Zbfh (p4b : Nat) (in5b : Nat) (opens8 : Bool) (closes9 : Bool) (as10 : Int) (H : Heap) (K : Value -> Value -> Heap -> Prop) (R : Value -> Heap -> Prop) : Prop :=
 IfB opens8
 (Zoh p4b in5b opens8 closes9 as10 K true H R)
 (∃ x51 : Bool, H.cell ⟨in5b, 0, none⟩ = some (Value.bool x51) ∧
 IfB (!x51)
 (∃ (x54a : Option Addr) (x54n x54c : Nat), H.cell ⟨p4b, 0, none⟩ = some (Value.slice x54a x54n x54c) ∧
 IfB (((x54n : Int) : Int) == 0)
 (Zoh p4b in5b opens8 closes9 as10 K true H R)
 (∃ (x58a : Option Addr) (x58n x58c : Nat), H.cell ⟨p4b, 0, none⟩ = some (Value.slice x58a x58n x58c) ∧
 ∃ (x59a : Option Addr) (x59n x59c : Nat), H.cell ⟨p4b, 0, none⟩ = some (Value.slice x59a x59n x59c) ∧
 NilP x58a fun x62q =>
 InB (IntKind.wrap .i64 ((x59n : Int) - 1)) x58n fun x62i =>
 elemAt x62q x62i 2 fun x62p =>
 ∃ x64 : Bool, H.cell x62p = some (Value.bool x64) ∧
 Zoh p4b in5b opens8 closes9 as10 K x64 H R))
 (Zoh p4b in5b opens8 closes9 as10 K false H R))
theorem Zcnx (ρ : Env) (p4b : Nat) (in5b : Nat) (opens8 : Bool) (closes9 : Bool) (as10 : Int) (H : Heap) (K : Value -> Value -> Heap -> Prop) (R : Value -> Heap -> Prop) : Zbfh p4b in5b opens8 closes9 as10 H K R = Za Tryd.prog Zck (cR (cR (cR (cR (cK (cB (cK (cR (cL (cR (cR (cR (cS (cR (Zd Tryd.f11))))))))))))))) (put (put (put (put (put ρ (some 4) (Value.pointer (some ⟨p4b, 0, none⟩))) (some 5) (Value.pointer (some ⟨in5b, 0, none⟩))) (some 8) (Value.bool opens8)) (some 9) (Value.bool closes9)) (some 10) (Value.int .u32 as10)) H (Zco (fun ρ H => K (ρ 4) (ρ 5) H) (RetW Tryd.prog Tryd.f11.results.toList R)) := by kernel_rfl
def Zxw (p4b : Nat) (K : Value -> Heap -> Prop) (x102 : Bool) (H2 : Heap) (R : Value -> Heap -> Prop) : Prop :=
 IfB x102
 (∃ (x103a : Option Addr) (x103n x103c : Nat), H2.cell ⟨p4b, 0, none⟩ = some (Value.slice x103a x103n x103c) ∧
 R (Value.tuple ⟨[(Value.slice x103a x103n x103c), (Value.int .i64 0)]⟩) H2)
 (K (Value.pointer (some ⟨p4b, 0, none⟩)) H2)
def Zbty (p4b : Nat) (in5b : Nat) (H : Heap) (K : Value -> Heap -> Prop) (R : Value -> Heap -> Prop) : Prop :=
 ∃ x96 : Bool, H.cell ⟨in5b, 0, none⟩ = some (Value.bool x96) ∧
 IfB (!x96)
 (∃ (x99a : Option Addr) (x99n x99c : Nat), H.cell ⟨p4b, 0, none⟩ = some (Value.slice x99a x99n x99c) ∧
 FnW Tryd.prog Zgv ⟨[(Value.slice x99a x99n x99c)]⟩ H fun x100v H1 =>
 ∃ x100 : Int, x100v = (Value.int .i64 x100) ∧
 Zxw p4b K ((x100 : Int) == 0) H1 R)
 (Zxw p4b K false H R)
theorem Zcao (ρ : Env) (p4b : Nat) (in5b : Nat) (H : Heap) (K : Value -> Heap -> Prop) (R : Value -> Heap -> Prop) : Zbty p4b in5b H K R = Za Tryd.prog Zck (cL (cR (cR (cR (cR (cS (cR (Zd Tryd.f11)))))))) (put (put ρ (some 4) (Value.pointer (some ⟨p4b, 0, none⟩))) (some 5) (Value.pointer (some ⟨in5b, 0, none⟩))) H (Zco (fun ρ H => K (ρ 4) H) (RetW Tryd.prog Tryd.f11.results.toList R)) := by kernel_rfl
def Zcju (H : Heap) (K : Heap -> Prop) (R : Value -> Heap -> Prop) : Prop :=
 R (Value.tuple ⟨[(Value.slice none 0 0), (Value.int .i64 5)]⟩) H
theorem Zbom (ρ : Env) (H : Heap) (K : Heap -> Prop) (R : Value -> Heap -> Prop) : Zcju H K R = Za Tryd.prog Zck (cR (cR (cR (cR (cR (cR (cS (cR (Zd Tryd.f11))))))))) ρ H (Zco (fun ρ H => K H) (RetW Tryd.prog Tryd.f11.results.toList R)) := by kernel_rfl
end Go.Proofs.YtflfamhboalgiaaDoor
end
section
set_option maxRecDepth 100000
namespace Go.Proofs.YtflfamhboalgiaaDoor
open Go.Sh
theorem Zcid {f : FuncId} {q : PkTs [Pk.str] -> (PkTs [Pk.int .u32] -> Prop) -> Prop} (hq : FnQ Tryd.prog f [Pk.str] [Pk.int .u32] q) {H : Heap} (hy : Lyd H) (s : List UInt8) (hl : s.length <= Zi) {n : Int} (hn : InR .u32 n) (h : ∀ K : PkTs [Pk.int .u32] -> Prop, K (n, ()) -> q (s, ()) K) :
    FnW Tryd.prog f ⟨[.string (bstr s)]⟩ H fun v H' => Keep Nil H H' ∧ v = .int .u32 n := by
  refine (FnQ.run (x := ((s, ()) : PkTs [Pk.str])) hq rfl rfl (Z := fun _ => False) ?_ (fun _ h => h.elim) hy.live hy.ok (K := fun y => y = (n, ())) (h _ rfl)).mono fun v H' hk => ?_; simp only [pksA, pkA, SimL, SimV, and_true]; exact ⟨trivial, hl⟩; obtain ⟨hk, y, rfl, _, hv⟩ := hk; have := hv 0 (gZ fun _ => False); simp only [pksA, pkA, outA, SimV] at this; exact ⟨hk, this.1⟩
theorem Zbsp {f : FuncId} {q : PkTs [Pk.str, Pk.str] -> (PkTs [Pk.str, Pk.bool] -> Prop) -> Prop} (hq : FnQ Tryd.prog f [Pk.str, Pk.str] [Pk.str, Pk.bool] q) {H : Heap} (hy : Lyd H) (s t : List UInt8) (hl : s.length <= Zi) (ht : t.length <= Zi) {u : List UInt8} {b : Bool} (h : ∀ K : PkTs [Pk.str, Pk.bool] -> Prop, K (u, b, ()) -> q (s, t, ()) K) :
    FnW Tryd.prog f ⟨[.string (bstr s), .string (bstr t)]⟩ H fun v H' => Keep Nil H H' ∧ v = .tuple ⟨[.string (bstr u), .bool b]⟩ := by
  refine (FnQ.run (x := ((s, t, ()) : PkTs [Pk.str, Pk.str])) hq rfl rfl (Z := fun _ => False) ?_ (fun _ h => h.elim) hy.live hy.ok (K := fun y => y = (u, b, ())) (h _ rfl)).mono fun v H' hk => ?_; simp only [pksA, pkA, SimL, SimV, and_true]; exact ⟨⟨trivial, hl⟩, trivial, ht⟩
  . obtain ⟨hk, y, rfl, _, hv⟩ := hk; have := hv 0 (gZ fun _ => False); simp only [pksA, pkA, outA, SimV] at this; obtain ⟨vs, rfl, hvs⟩ := this
    match vs, hvs with
    | [v1, v2], hvs =>
    simp only [SimL, SimV] at hvs; obtain ⟨⟨rfl, _⟩, rfl, _⟩ := hvs; exact ⟨hk, rfl⟩
theorem Zcgl {H : Heap} (hy : Lyd H) (s : List UInt8) (hl : s.length <= 1000000) : FnW Tryd.prog Zuv ⟨[.string (bstr s)]⟩ H fun v H' => Keep Nil H H' ∧ v = .int .u32 (sysN s : Nat) :=
  Zcid Zcpp hy s (by unfold Zi; omega) ⟨by simp only [loI]; omega, by have := Zbba s; simp only [hiI]; omega⟩ fun K hk => Zccm s _ (by omega) hk
theorem Zcuq {H : Heap} (hy : Lyd H) (s : List UInt8) (hl : s.length <= 1000000) : FnW Tryd.prog Zyy ⟨[.string (bstr s), .string (bstr [123])]⟩ H fun v H' => Keep Nil H H' ∧ v = .tuple ⟨[.string (bstr (cutO s)), .bool (Zbn s)]⟩ :=
  Zbsp Zcck hy s [123] (by unfold Zi; omega) (by decide) fun K hk => Zcrk s _ hk
theorem Zcgz {H : Heap} (hy : Lyd H) (s : List UInt8) (hl : s.length <= 1000000) : FnW Tryd.prog Ztq ⟨[.string (bstr s), .string (bstr [125])]⟩ H fun v H' => Keep Nil H H' ∧ v = .tuple ⟨[.string (bstr (cutC s)), .bool (Zce s)]⟩ :=
  Zbsp Zcmt hy s [125] (by unfold Zi; omega) (by decide) fun K hk => Zcod s _ (by omega) hk
theorem Zxk {f : FuncId} {q : PkTs [Pk.lst Zbl] -> (PkTs [Pk.int .i64] -> Prop) -> Prop} (hq : FnQ Tryd.prog f [Pk.lst Zbl] [Pk.int .i64] q) {H : Heap} (hy : Lyd H) {Z : Nat -> Prop} {p : List Seg} {v : Value} (hz : ∀ x, Z x -> H x ≠ none) (hp : Zb Z H Zbz p v) {n : Int} (h : ∀ K : PkTs [Pk.int .i64] -> Prop, K (n, ()) -> q (p, ()) K) :
    FnW Tryd.prog f ⟨[v]⟩ H fun v H' => Keep Nil H H' ∧ v = .int .i64 n := by
  refine (FnQ.run (x := ((p, ()) : PkTs [Pk.lst Zbl])) hq rfl rfl (Z := Z) ?_ hz hy.live hy.ok (K := fun y => y = (n, ())) (h _ rfl)).mono fun v H' hk => ?_; show SimL (gZ Z) H 0 [AV.lst Zbl p] [v]; simp only [SimL, SimV, and_true]; exact hp; obtain ⟨hk, y, rfl, _, hv⟩ := hk; have := hv 0 (gZ fun _ => False); simp only [pksA, pkA, outA, SimV] at this; exact ⟨hk, this.1⟩
theorem Zbsy {H : Heap} (hy : Lyd H) {Z : Nat -> Prop} {p : List Seg} {v : Value} (hz : ∀ x, Z x -> H x ≠ none) (hp : Zb Z H Zbz p v) (hl : p.length <= 1000000000) (hc : cnt p <= 1000000000) : FnW Tryd.prog Zgv ⟨[v]⟩ H fun v H' => Keep Nil H H' ∧ v = .int .i64 (Zfo (Zo p)) :=
  Zxk Zbmv hy hz hp fun K hk => Zom p _ (by omega) (by omega) hk
theorem Zchn {H : Heap} (hy : Lyd H) {Z : Nat -> Prop} {p : List Seg} {v : Value} (hz : ∀ x, Z x -> H x ≠ none) (hp : Zb Z H Zbz p v) (hl : p.length <= 1000000000) (hc : cnt p <= 1000000000) : FnW Tryd.prog Zht ⟨[v]⟩ H fun v H' => Keep Nil H H' ∧ v = .int .i64 (Zfo (Zo p)) :=
  Zxk Zbwt hy hz hp fun K hk => Zny p _ (by omega) (by omega) hk
theorem Zbgh (q : List Seg) (s : Seg) (b o : Bool) : Zbq (q ++ [s]) b o = if o || (!b && s.1) then q ++ [s] ++ [(o, [])] else q ++ [s] := by unfold Zbq newW; rw [List.getLast?_concat]
theorem Zbjr (w : List UInt8) : (cutO w).length <= w.length := by unfold cutO; split <;> simp
theorem Zbvv (w : List UInt8) : (cutC w).length <= w.length := by unfold cutC; split <;> simp
section
variable {H0 H : Heap} {F : Nat -> Prop} {a : Option Addr} {n c : Nat} {p : List Seg}
theorem Zbhj {H : Heap} {b : Nat} {T : TypeId} {v w : Value} {K : Heap -> Prop} (hb : Blk H b T ⟨[v]⟩) (hw : Zby w = true) (hk : ∀ H', Blk H' b T ⟨[w]⟩ -> (∀ x, x ≠ b -> H' x = H x) -> K H') : Zt H ⟨b, 0, none⟩ w K := by
  refine Zt.blk hb (by simp) hw ?_
  have e : (⟨[v]⟩ : Array Value).setIfInBounds 0 w = ⟨[w]⟩ := by apply Array.ext'; simp
  rw [e]; exact hk _ Blk.upd_eq fun x hx => Sh.upd_ne hx
theorem PSt.notF (h : PSt H0 H F a n c p) {m : Nat} {T : TypeId} {q : Array Value} (hb : Blk H m T q) (hT : T ∉ [Zl, Zh]) : ¬ F m := fun hm => by obtain ⟨_, T', q', hb', hT'⟩ := h.new hm; exact hT (Zhd hb' hb ▸ hT')
def EndV (H0 H : Heap) (F : Nat -> Prop) (bp bi : Nat) (p : List Seg) (b : Bool) (K : Heap -> Prop) : Prop :=
  ∀ H' F' a' n' c', PSt H0 H' F' a' n' c' p -> Blk H' bp Zq ⟨[.slice a' n' c']⟩ -> Blk H' bi Zeu ⟨[.bool b]⟩ -> (∀ x, F' x -> F x ∨ H x = none) -> Keep (fun x => x = bp ∨ x = bi ∨ F x) H H' -> K H'
theorem v_j1 {bp bi : Nat} {b o cl : Bool} {num : Nat} {K : Value -> Value -> Heap -> Prop} {R : Value -> Heap -> Prop} (hne : bp ≠ bi) (f1 : H0 bp = none) (f2 : H0 bi = none) (h : PSt H0 H F a n c p) (hp : p ≠ []) (h1 : Blk H bp Zq ⟨[.slice a n c]⟩) (h2 : Blk H bi Zeu ⟨[.bool b]⟩) (hn : num < 4294967296) (hl : cnt p <= 1000000) (hpl : p.length <= 1000000)
    (hk : EndV H0 H F bp bi (Zfc p num) ((b || o) && !cl) (K (.pointer (some ⟨bp, 0, none⟩)) (.pointer (some ⟨bi, 0, none⟩)))) : Zxd bp bi o cl (num : Int) K H R := by
  have nb1 := h.notF h1 (by decide)
  have nb2 := h.notF h2 (by decide)
  have hlen := h.len; obtain ⟨m, init, b0, l, la, lc, rfl, hm, rfl, hin, q1, q2, q3⟩ := h.last hp; have hcl : l.length <= 1000000 := by rw [Zds] at hl; simp only at hl; omega
  rw [Zia] at hk; unfold Zxd; refine ⟨_, _, _, Zbx h1 0 rfl, _, _, _, Zbx h1 0 rfl, NilP.intro _ rfl ?_⟩; have hw : IntKind.wrap .i64 ((n : Int) - 1) = (init.length : Int) := by
    rw [hin, Zg (by simp at hpl; omega) (by simp at hpl; omega)]; omega
  rw [hw]; refine InB.intro init.length rfl (by omega) ?_
  rw [Zdo]; unfold Zblf; simp only [Nat.zero_add]; refine ⟨_, _, _, q2, newB fun xb H7 f7 k7 b7 => ?_⟩; have hu : (UInt32.ofNat num).toNat = num := by rw [UInt32.toNat_ofNat', Nat.mod_eq_of_lt hn]
  refine q3 (u := UInt32.ofNat num) k7 (by rw [hu]; exact b7) (by omega) fun la' lc' H8 st k8 => ⟨_, _, _, rfl, st _ fun H9 F' p9 fr k9 => ?_⟩
  have k79 : Keep F H H9 := (k7.mono fun _ h => h.elim).trans k9; have i9 := k79.blk h2 nb2; have p9' := k79.blk h1 nb1; have fr' : ∀ x, F' x -> F x ∨ H x = none := fun x hx => (fr x hx).imp id k7.free; have fin : ∀ w, w = ((b || o) && !cl) -> Zt H9 ⟨bi, 0, none⟩ (.bool w) fun H10 => K (.pointer (some ⟨bp, 0, none⟩)) (.pointer (some ⟨bi, 0, none⟩)) H10 := fun w hw => by
    subst hw; refine Zbhj i9 rfl fun H10 b10 o10 => hk H10 F' _ _ c (p9.step (S := fun x => x = bi) (Zgd b10 o10) fun x hx => by
      subst hx; exact ⟨f2, fun hf => (fr' x hf).elim nb2 h2.some⟩) (p9'.same (o10 _ hne)) b10 fr' ?_
    exact (k79.mono fun x hx => .inr (.inr hx)).trans ((Zgd b10 o10).mono fun x hx => .inr (.inl hx))
  refine ⟨_, Zbx i9 0 rfl, ?_⟩; cases b
  . cases o; exact ifF rfl (ifF rfl (fin _ (by simp)))
    exact ifF rfl (ifT rfl (fin _ (by simp)))
  exact ifT rfl (fin _ (by simp))
theorem Zcfm {bp bi : Nat} {b o cl : Bool} {num : Nat} {K : Value -> Value -> Heap -> Prop} {R : Value -> Heap -> Prop} (hne : bp ≠ bi) (f1 : H0 bp = none) (f2 : H0 bi = none) (h : PSt H0 H F a n c p) (hbp : b = true -> p ≠ []) (h1 : Blk H bp Zq ⟨[.slice a n c]⟩) (h2 : Blk H bi Zeu ⟨[.bool b]⟩) (hn : num < 4294967296) (hl : cnt p <= 10000) (hpl : p.length <= 10000)
    (hk : EndV H0 H F bp bi (Zfc (Zbq p b o) num) ((b || o) && !cl) (K (.pointer (some ⟨bp, 0, none⟩)) (.pointer (some ⟨bi, 0, none⟩)))) : Zbfh bp bi o cl (num : Int) H K R := by
  have nb1 := h.notF h1 (by decide)
  have nb2 := h.notF h2 (by decide)
  have hlen := h.len; have j0 : ∀ nw, nw = newW p b o -> Zoh bp bi o cl (num : Int) K nw H R := fun nw hnw => by
    subst hnw; unfold Zoh; have hne2 : Zbq p b o ≠ [] := Zut fun e => by cases b; rfl; exact absurd e (hbp rfl)
    refine IfB.intro (fun hw => ?_) fun hw => ?_
    . have e : Zbq p b o = p ++ [(o, [])] := by unfold Zbq; rw [if_pos hw]
      rw [e] at hk; refine ⟨_, _, _, Zbx h1 0 rfl, newB fun xb H2 f2' k2 b2 => ?_⟩; have p2 := h.kept k2; refine p2.push (by omega) b2 fun a' c' H3 F' p3 fr k3 => ⟨_, _, _, rfl, ?_⟩
      have k23 : Keep F H H3 := (k2.mono fun _ h => h.elim).trans k3; have fr' : ∀ x, F' x -> F x ∨ H x = none := fun x hx => (fr x hx).imp id k2.free; refine Zbhj (k23.blk h1 nb1) rfl fun H4 b4 o4 => ?_; have nf1 : ¬ F' bp := fun hf => (fr' bp hf).elim nb1 h1.some; have p4 := p3.step (S := fun x => x = bp) (Zgd b4 o4) fun x hx => by subst hx; exact ⟨f1, nf1⟩
      have k4 : Keep (fun x => x = bp ∨ x = bi ∨ F x) H H4 := (k23.mono fun x hx => .inr (.inr hx)).trans ((Zgd b4 o4).mono fun x hx => .inl hx); refine v_j1 hne f1 f2 p4 (by simp) b4 ((k23.blk h2 nb2).same (o4 _ (Ne.symm hne))) hn ?_ ?_ fun H' F2 a2 n2 c2 r1 r2 r3 r4 r5 => hk H' F2 a2 n2 c2 r1 r2 r3 (fun x hx => ?_) ?_
      rw [Zds]; simp only [List.length_nil]; omega; simp; omega; rcases r4 x hx with e | e; exact fr' x e; exact .inr (k4.free e); refine ⟨fun x hx hl => ?_, fun x hx => r5.live x (k4.live x hx)⟩; rw [r5.same x (fun e => ?_) (k4.live x hl), k4.same x hx hl]; rcases e with e | e | e; exact hx (.inl e); exact hx (.inr (.inl e)); exact (fr' x e).elim (fun e => hx (.inr (.inr e))) hl
    . have e : Zbq p b o = p := by unfold Zbq; rw [if_neg (by rw [hw]; decide)]
      rw [e] at hk hne2; exact v_j1 hne f1 f2 h hne2 h1 h2 hn (by omega) (by omega) hk
  unfold Zbfh; cases o
  case true => exact ifT rfl (j0 true (by simp [newW]))
  refine ifF rfl ⟨_, Zbx h2 0 rfl, ?_⟩; cases b
  case true => exact ifF rfl (j0 false (by simp [newW]))
  refine ifT rfl ⟨_, _, _, Zbx h1 0 rfl, ?_⟩; by_cases hp : p = []; subst hp; have : n = 0 := hlen; subst this; exact ifT rfl (j0 true (by simp [newW]))
  . obtain ⟨m, init, b0, l, la, lc, rfl, hm, rfl, hin, q1, q2, q3⟩ := h.last hp; refine ifF (by simp; omega) ⟨_, _, _, Zbx h1 0 rfl, _, _, _, Zbx h1 0 rfl, NilP.intro _ rfl ?_⟩
    have hw : IntKind.wrap .i64 ((n : Int) - 1) = (init.length : Int) := by
      rw [hin, Zg (by simp at hpl; omega) (by simp at hpl; omega)]; omega
    rw [hw]; refine InB.intro init.length rfl (by omega) ?_
    rw [Zdo]; simp only [Nat.zero_add]; exact ⟨_, q1, j0 b0 (by simp [newW])⟩
end
end Go.Proofs.YtflfamhboalgiaaDoor
end
section
set_option maxRecDepth 100000
noncomputable section
namespace Go.Proofs.YtflfamhboalgiaaDoor
open Go.Sh
abbrev lp : Code := cS (cR (Zd Tryd.f11))
abbrev lpM : Code := cR (cR (cR lp))
abbrev lpG : Code := cK (cR (cL lpM))
abbrev lpB : Code := cK (cB lpG)
theorem Zcfn : Zd Tryd.f11 = .seq (cL (Zd Tryd.f11)) (.scope lp) := by kernel_rfl
theorem e_lp : lp = .seq (cL lp) (.seq (cL (cR lp)) (.seq (cL (cR (cR lp))) (.seq (.seq (cL (cL lpM)) (.block 0 (.rangeFunc (.tmp 16) #[17] (cA lpG) (.block 1 lpB)))) (cR lpM)))) := by kernel_rfl
theorem Zcjm : cR lpM = .seq (cL (cR lpM)) (.seq (.label 0) (cR (cR (cR lpM)))) := by kernel_rfl
theorem Zcqm : lpB = .seq (cL lpB) (.seq (cL (cR lpB)) (.seq (cL (cR (cR lpB))) (.seq (.seq (cL (cL (cR (cR (cR lpB))))) (.cond (.tmp 48) (.goto 0) .skip)) (cR (cR (cR (cR lpB))))))) := by kernel_rfl
abbrev QG (Q : Post) : Post := Zbc (fun l ρ H Q => Zf Tryd.prog Zck lp l ρ H Q) (Zcz lp) 1 Q
theorem Zcem (ρ : Env) (H : Heap) (Q : Post) : Za Tryd.prog Zck (.scope lp) ρ H Q = Za Tryd.prog Zck lp ρ H (QG Q) := by kernel_rfl
theorem Zcay (ρ : Env) (H : Heap) (Q : Post) : QG Q (.goto 0) ρ H = Za Tryd.prog Zck (cR (cR (cR lpM))) ρ H (Zbc (fun l ρ H Q => Zf Tryd.prog Zck lp l ρ H Q) (Zcz lp) 0 Q) := by kernel_rfl
def Zha (H0 : Heap) (s : List UInt8) (v : Value) (H' : Heap) : Prop :=
  Keep Nil H0 H' ∧ ∃ Zn p va e, NewZ H0 H' Zn [Zl, Zh] ∧ v = .tuple ⟨[va, .int .i64 e]⟩ ∧ Zb Zn H' Zbz p va ∧ ((Zct s = some p ∧ e = 0) ∨ (Zct s = none ∧ p = [] ∧ e = 5))
theorem Zbbg {H0 H H' : Heap} {Z : Nat -> Prop} {Ts : List TypeId} {k : Kd} {x : El k} {v : Value} (hz : NewZ H0 H Z Ts) (h : Zb Z H k x v) {Hs : Heap} (hs : Shut Hs H H') : Zb Z H' k x v := Zb.ext (fun m hm => ⟨hm, by
  obtain ⟨_, T, q, hq, _⟩ := hz m hm; rw [hq]; exact Zgt hq hs⟩) _ _ _ h
theorem Zha.shut {H0 H' H'' : Heap} {s : List UInt8} {v : Value} (h : Zha H0 s v H') (hs : Shut H0 H' H'') : Zha H0 s v H'' := by obtain ⟨h1, Zn, p, va, e, h2, h3, h4, h5⟩ := h; exact ⟨Zdx h1 hs, Zn, p, va, e, h2.shut hs, h3, Zbbg h2 h4 hs, h5⟩
theorem Zow {H0 H : Heap} {s : List UInt8} (k : Keep Nil H0 H) (h : Zct s = none) : Zha H0 s (.tuple ⟨[.slice none 0 0, .int .i64 5]⟩) H := ⟨k, fun _ => False, [], _, 5, NewZ.none, rfl, Zrg, .inr ⟨h, rfl, rfl⟩⟩
theorem Zcbv {H : Heap} (s t : List UInt8) : FnW Tryd.prog Zxh ⟨[.string (bstr s), .string (bstr t)]⟩ H fun v H' => ∃ b1 b2 b3 T1 T2 T3, v = .func (.func Zid) #[] ⟨[Zcg b1, Zcg b2, Zcg b3]⟩ ∧ (∀ x ∈ [b1, b2, b3], H x = none) ∧ [b1, b2, b3].Nodup ∧ Keep Nil H H' ∧
    H' b1 = some (.cells ⟨[.string (bstr t)]⟩ T1 (0, 0)) ∧ H' b2 = some (.cells ⟨[.string (bstr s)]⟩ T2 (0, 0)) ∧ H' b3 = some (.cells ⟨[.int .i64 0]⟩ T3 (0, 0)) := by
  refine Zcrh _ _ ?_; unfold Zbbk; refine FnW.mono (Zchs (R := fun v H' => ∃ b1 b2 b3 T1 T2 T3, v = .func (.func Zid) #[] ⟨[Zcg b1, Zcg b2, Zcg b3]⟩ ∧ (∀ x ∈ [b1, b2, b3], H x = none) ∧ [b1, b2, b3].Nodup ∧ Keep Nil H H' ∧
    Blk H' b1 T1 ⟨[.string (bstr t)]⟩ ∧ Blk H' b2 T2 ⟨[.string (bstr s)]⟩ ∧ Blk H' b3 T3 ⟨[.int .i64 0]⟩) _ _ _ ?_) ?_
  . refine newB fun b2 H1 f2 k2 h2 => newB fun b1 H2 f1 k1 h1 => newB fun b3 H3 f3 k3 h3 => ?_; have h2' := k1.blk h2 fun h => h; have h2'' := k3.blk h2' fun h => h; have h1' := k3.blk h1 fun h => h; have k13 := (k2.trans k1).trans k3; have g1 : H b1 = none := k2.free f1; have g3 : H b3 = none := (k2.trans k1).free f3; have n12 : b1 ≠ b2 := fun e => h2.some (e ▸ f1); have n13 : b1 ≠ b3 := fun e => h1.some (e ▸ f3); have n23 : b2 ≠ b3 := fun e => h2'.some (e ▸ f3); refine fun H4 hs => ⟨b1, b2, b3, _, _, _, rfl, fun x hx => ?_, by simp [n12, n13, n23], Zdx k13 hs, Zgt h1' hs, Zgt h2'' hs, Zgt h3 hs⟩
    simp only [List.mem_cons, List.not_mem_nil, or_false] at hx; rcases hx with rfl | rfl | rfl; exact g1; exact f2; exact g3
  rintro v H1 ⟨b1, b2, b3, T1, T2, T3, rfl, h1, h2, h3, h4, h5, h6⟩; exact ⟨_, rfl, fun H2 hs => ⟨b1, b2, b3, T1, T2, T3, rfl, h1, h2, Zdx h3 hs, Zgt h4 hs, Zgt h5 hs, Zgt h6 hs⟩⟩
structure PJ (H0 Hs : Heap) (bs : List Nat) (bp bi : Nat) (s : List UInt8) (Z W : Nat -> Prop) (r : List StrU) (Hc : Heap) : Prop where
  ex : ∃ (p : List Seg) (b : Bool) (F : Nat -> Prop) (a : Option Addr) (n c : Nat), runW (r.map (·.1)) (p, b) = runW (spl 32 s) ([], false) ∧ (b = true -> p ≠ []) ∧ p.length + r.length <= 3000 ∧ cnt p + r.length <= 3000 ∧ PSt H0 Hc F a n c p ∧ Blk Hc bp Zq ⟨[.slice a n c]⟩ ∧ Blk Hc bi Zeu ⟨[.bool b]⟩ ∧ (∀ x, W x ↔ (x = bp ∨ x = bi ∨ F x))
  words : ∀ w ∈ r, w.1.length <= 1000000
  wz : ∀ x, W x -> ¬ Z x
  zl : ∀ x, Z x -> Hc x ≠ none ∧ (Hs x ≠ none ∨ ∀ ds, Hc x ≠ some (.deferred ds))
theorem Zbxd : ∀ (k : Nat) (s : List UInt8), s.length <= k -> ∀ x ∈ spl 32 s, x.length <= s.length := by
  intro k; induction k with
  | zero =>
    intro s hs x hx; have : s = [] := List.eq_nil_of_length_eq_zero (by omega)
    subst this; rw [Zoz (by simp)] at hx
    simp at hx; subst hx; simp
  | succ k ih =>
    intro s hs x hx; rcases Zbzp (c := 32) (s := s) with ⟨hc, _⟩ | ⟨pre, rest, rfl, hc, _⟩; rw [Zoz hc] at hx; simp at hx; subst hx; exact Nat.le_refl _
    . rw [Zxm hc] at hx; simp only [List.length_append, List.length_cons] at hs ⊢; rcases List.mem_cons.1 hx with rfl | hx; omega
      . have := ih rest (by omega) x hx
        omega
theorem Zcvm {s : List UInt8} : ∀ w ∈ Zen 32 s, w.1.length <= s.length := fun w hw => by obtain ⟨x, hx, rfl⟩ := List.mem_map.1 hw; exact Zbxd s.length s (Nat.le_refl _) x hx
end Go.Proofs.YtflfamhboalgiaaDoor
end
section
set_option maxRecDepth 100000
noncomputable section
namespace Go.Proofs.YtflfamhboalgiaaDoor
open Go.Sh
theorem Zcfo (ρ : Env) (H : Heap) (Q : Post) : Za Tryd.prog Zck lp ρ H Q = Za Tryd.prog Zck (.seq (cL lp) (.seq (cL (cR lp)) (.seq (cL (cR (cR lp))) (.seq (.seq (cL (cL lpM)) (.block 0 (.rangeFunc (.tmp 16) #[17] (cA lpG) (.block 1 lpB)))) (cR lpM))))) ρ H Q := by rw [← e_lp]
theorem toQ {c : Code} {ρ : Env} {H : Heap} {K : Env -> Heap -> Prop} {rs : List ResultVar} {R : Value -> Heap -> Prop} (h : Za Tryd.prog Zck c ρ H (Zco K (RetW Tryd.prog rs R))) : Za Tryd.prog Zck c ρ H (Zco K (QG (RetW Tryd.prog rs R))) :=
  Za.mono c (fun e ρ H he => by cases e <;> first | exact he | exact he.elim) _ _ h
theorem Zbiy {P : Program} {plan : Plan} {a b : Code} {ρ : Env} {H : Heap} {Q : Post} (h : Za P plan a ρ H (Zmr (fun ρ' H' => Za P plan b ρ' H' Q) Q)) : Za P plan (.seq a b) ρ H Q := by simp only [Za]; exact h
theorem Zbwy (s : List UInt8) : ((bstr s).toList == (ByteArray.mk #[]).toList) = decide (s = []) := by have e2 : (ByteArray.mk #[]).toList = [] := Zbdn []; rw [Zbdn, e2]; cases s <;> rfl
theorem Zcuz {H0 Hs Hx : Heap} {bs : List Nat} {bp bi : Nat} {s : List UInt8} {Z W : Nat -> Prop} {w : List UInt8} {r : List StrU} {ρ : Env} {Q : Post} (hy : Lyd H0) (hne : bp ≠ bi) (f1 : H0 bp = none) (f2 : H0 bi = none)
    (e4 : ρ 4 = .pointer (some ⟨bp, 0, none⟩)) (e5 : ρ 5 = .pointer (some ⟨bi, 0, none⟩)) (e6 : ρ 6 = .string (bstr w)) (hJ : PJ H0 Hs bs bp bi s Z W ((w, ()) :: r) Hx)
    (hbad : ∀ ρ' H', runW (spl 32 s) ([], false) = none -> Keep Nil Hx H' -> Q (.goto 0) ρ' H')
    (hok : ∀ ρ' H' F' p' b' a' n' c', Keep W Hx H' -> (∀ x, (x = bp ∨ x = bi ∨ F' x) -> W x ∨ Hx x = none) -> PSt H0 H' F' a' n' c' p' -> Blk H' bp Zq ⟨[.slice a' n' c']⟩ -> Blk H' bi Zeu ⟨[.bool b']⟩ -> runW (r.map (·.1)) (p', b') = runW (spl 32 s) ([], false) -> (b' = true -> p' ≠ []) -> p'.length + r.length <= 3000 -> cnt p' + r.length <= 3000 -> Q .normal ρ' H') :
    Za Tryd.prog Zck (.block 1 lpB) ρ Hx Q := by
  obtain ⟨⟨p, b, F, a, n, c, hrun, hbp, hpl, hcl, hp, hb1, hb2, hW⟩, hwl, hwz, hzl⟩ := hJ; have hwl0 : w.length <= 1000000 := hwl (w, ()) List.mem_cons_self; simp only [List.length_cons] at hpl hcl; have hO := Zbjr w; have hC := Zbvv (cutO w); have lost : ∀ {K : Env -> Heap -> Prop} {e : Exit} {ρ' : Env} {H' : Heap}, Zco K (RetW Tryd.prog Tryd.f11.results.toList fun _ _ => False) e ρ' H' -> Zco K (Zik 1 Q) e ρ' H' := fun {K e ρ' H'} h => by obtain ⟨rfl, h⟩ := Zpb h; exact h
  refine Zbrl ?_; rw [Zcqm]; refine Zhf (K := fun ρ' H' => Keep Nil Hx H' ∧ ρ' 4 = .pointer (some ⟨bp, 0, none⟩) ∧ ρ' 5 = .pointer (some ⟨bi, 0, none⟩) ∧ ρ' 7 = .string (bstr (cutO w)) ∧ ρ' 8 = .bool (Zbn w)) ?_ ?_; have h := Zcmr ρ bp bi (bstr w) Hx (fun v4 v5 v7 v8 H' => Keep Nil Hx H' ∧ v4 = .pointer (some ⟨bp, 0, none⟩) ∧ v5 = .pointer (some ⟨bi, 0, none⟩) ∧ v7 = .string (bstr (cutO w)) ∧ v8 = .bool (Zbn w)) (fun _ _ => False); rw [Zbi e4, Zbi e5, Zbi e6] at h; refine Za.mono _ (fun e ρ' H' he => lost he) _ _ (Eq.mp h ((Zcuq (hy.keep (hp.keep)) w hwl0).mono fun v H' hv => ?_)); obtain ⟨k, rfl⟩ := hv; exact ⟨_, _, rfl, k, rfl, rfl, rfl, rfl⟩; rintro ρ1 H1 ⟨k1, a4, a5, a7, a8⟩; refine Zhf (K := fun ρ' H' => Keep Nil Hx H' ∧ ρ' 4 = .pointer (some ⟨bp, 0, none⟩) ∧ ρ' 5 = .pointer (some ⟨bi, 0, none⟩) ∧ ρ' 7 = .string (bstr (cutC (cutO w))) ∧ ρ' 8 = .bool (Zbn w) ∧ ρ' 9 = .bool (Zce (cutO w))) ?_ ?_
  . have h := Zcoo ρ1 bp bi (bstr (cutO w)) (Zbn w) H1 (fun v4 v5 v7 v8 v9 H' => Keep Nil Hx H' ∧ v4 = .pointer (some ⟨bp, 0, none⟩) ∧ v5 = .pointer (some ⟨bi, 0, none⟩) ∧ v7 = .string (bstr (cutC (cutO w))) ∧ v8 = .bool (Zbn w) ∧ v9 = .bool (Zce (cutO w))) (fun _ _ => False); rw [Zbi a4, Zbi a5, Zbi a7, Zbi a8] at h; refine Za.mono _ (fun e ρ' H' he => lost he) _ _ (Eq.mp h ((Zcgz (hy.keep (hp.keep.trans k1)) (cutO w) (by omega)).mono fun v H' hv => ?_))
    obtain ⟨k, rfl⟩ := hv; exact ⟨_, _, rfl, k1.trans k, rfl, rfl, rfl, rfl, rfl⟩
  clear a4 a5 a7 a8 k1; rintro ρ2 H2 ⟨k2, a4, a5, a7, a8, a9⟩; refine Zhf (K := fun ρ' H' => Keep Nil Hx H' ∧ ρ' 4 = .pointer (some ⟨bp, 0, none⟩) ∧ ρ' 5 = .pointer (some ⟨bi, 0, none⟩) ∧ ρ' 8 = .bool (Zbn w) ∧ ρ' 9 = .bool (Zce (cutO w)) ∧ ρ' 10 = .int .u32 (sysN (cutC (cutO w)) : Nat)) ?_ ?_
  . have h := Zcqv ρ2 bp bi (bstr (cutC (cutO w))) (Zbn w) (Zce (cutO w)) H2 (fun v4 v5 v8 v9 v10 H' => Keep Nil Hx H' ∧ v4 = .pointer (some ⟨bp, 0, none⟩) ∧ v5 = .pointer (some ⟨bi, 0, none⟩) ∧ v8 = .bool (Zbn w) ∧ v9 = .bool (Zce (cutO w)) ∧ v10 = .int .u32 (sysN (cutC (cutO w)) : Nat)) (fun _ _ => False); rw [Zbi a4, Zbi a5, Zbi a7, Zbi a8, Zbi a9] at h; refine Za.mono _ (fun e ρ' H' he => lost he) _ _ (Eq.mp h ((Zcgl (hy.keep (hp.keep.trans k2)) (cutC (cutO w)) (by omega)).mono fun v H' hv => ?_))
    obtain ⟨k, rfl⟩ := hv; exact ⟨_, rfl, k2.trans k, rfl, rfl, rfl, rfl, rfl⟩
  clear a4 a5 a7 a8 a9 k2; rintro ρ3 H3 ⟨k3, a4, a5, a8, a9, a10⟩; have hstep : runW ((((w, ()) :: r) : List StrU).map (·.1)) (p, b) = match stepW (p, b) w with | some st' => runW (r.map (·.1)) st' | none => none := rfl
  rw [hrun] at hstep; unfold stepW at hstep; simp only at hstep; have hnum := Zbba (cutC (cutO w)); generalize sysN (cutC (cutO w)) = num at *; generalize Zbn w = o at *; generalize Zce (cutO w) = cl at *; have p3 := hp.kept k3; have b13 := k3.blk hb1 fun h => h; have b23 := k3.blk hb2 fun h => h; refine Zbiy (Zhf (K := fun ρ' H' => H' = H3 ∧ ρ' 4 = .pointer (some ⟨bp, 0, none⟩) ∧ ρ' 5 = .pointer (some ⟨bi, 0, none⟩) ∧ ρ' 8 = .bool o ∧ ρ' 9 = .bool cl ∧ ρ' 10 = .int .u32 (num : Int) ∧ ρ' 48 = .bool (badW b o cl num)) ?_ ?_)
  . have h := Zcti ρ3 bp bi o cl (num : Int) H3 (fun v4 v5 v8 v9 v10 v48 H' => H' = H3 ∧ v4 = .pointer (some ⟨bp, 0, none⟩) ∧ v5 = .pointer (some ⟨bi, 0, none⟩) ∧ v8 = .bool o ∧ v9 = .bool cl ∧ v10 = .int .u32 (num : Int) ∧ v48 = .bool (badW b o cl num)) (fun _ _ => False); rw [Zbi a4, Zbi a5, Zbi a8, Zbi a9, Zbi a10] at h; refine Za.mono _ (fun e ρ' H' he => ?_) _ _ (Eq.mp h ?_); obtain ⟨rfl, he⟩ := Zpb he; exact he; have fin : ∀ v, v = badW b o cl num -> (H3 = H3 ∧ Value.pointer (some ⟨bp, 0, none⟩) = .pointer (some ⟨bp, 0, none⟩) ∧ Value.pointer (some ⟨bi, 0, none⟩) = .pointer (some ⟨bi, 0, none⟩) ∧ Value.bool o = .bool o ∧ Value.bool cl = .bool cl ∧ Value.int .u32 (num : Int) = .int .u32 (num : Int) ∧ Value.bool v = .bool (badW b o cl num)) := fun v hv => ⟨rfl, rfl, rfl, rfl, rfl, rfl, by rw [hv]⟩
    have hc := Zbx b23 0 rfl; unfold Zbro; by_cases h0 : num = 0; subst h0; exact ifT rfl (fin _ (by simp [badW]))
    have h0' : (num == 0) = false := by simpa using h0
    have hb : badW b o cl num = (o && b || cl && !b && !o) := by simp [badW, h0']
    rw [hb] at fin ⊢; refine ifF (by simpa using h0) ?_
    cases o
    . refine ifF rfl ?_; cases cl; exact ifF rfl (fin _ (by simp))
      . refine ifT rfl ⟨_, hc, ?_⟩; cases b; exact ifT rfl (fin _ (by simp))
        exact ifF rfl (fin _ (by simp))
    . refine ifT rfl ⟨_, hc, ?_⟩; cases b
      . refine ifF rfl ?_; cases cl; exact ifF rfl (fin _ (by simp))
        exact ifT rfl ⟨_, hc, ifT rfl (fin _ (by simp))⟩
      exact ifT rfl (fin _ (by simp))
  clear a4 a5 a8 a9 a10; rintro ρ4 H4 ⟨rfl, a4, a5, a8, a9, a10, a48⟩; simp only [Za, ev]; rw [a48]; refine IfB.intro (fun hb => ?_) fun hb => ?_; rw [hb, if_pos rfl] at hstep; exact hbad ρ4 H4 hstep k3
  . rw [hb, if_neg (by decide)] at hstep
    simp only at hstep; show Za _ _ _ _ _ _; have h := Zcnx ρ4 bp bi o cl (num : Int) H4 (fun v4 v5 H' => ∀ ρ', Q .normal ρ' H') (fun _ _ => False); rw [Zbi a4, Zbi a5, Zbi a8, Zbi a9, Zbi a10] at h; refine Za.mono _ (fun e ρ' H' he => ?_) _ _ (Eq.mp h (Zcfm hne f1 f2 p3 hbp b13 b23 hnum (by omega) (by omega) fun H' F' a' n' c' q1 q2 q3 q4 q5 ρ' => ?_))
    obtain ⟨rfl, he⟩ := Zpb he; exact he ρ'
    . have hne2 : Zbq p b o ≠ [] := Zut fun e => by cases b; rfl; exact absurd e (hbp rfl)
      obtain ⟨c1, c2⟩ := Zbkj hne2 num; obtain ⟨c3, c4⟩ := Zbtf p b o; refine hok ρ' H' F' _ _ a' n' c' ?_ (fun x hx => ?_) q1 q2 q3 hstep.symm (fun _ e => ?_) (by omega) (by omega)
      exact (k3.mono fun _ h => h.elim).trans (q5.mono fun x hx => (hW x).2 hx); rcases hx with rfl | rfl | hx; exact .inl ((hW _).2 (.inl rfl)); exact .inl ((hW _).2 (.inr (.inl rfl))); rcases q4 x hx with e | e; exact .inl ((hW _).2 (.inr (.inr e))); exact .inr (k3.free e)
      . have h0 : (Zbq p b o).length = 0 := by rw [← c2, e]; rfl
        exact hne2 (List.eq_nil_of_length_eq_zero h0)
theorem Zcos {H0 : Heap} (hy : Lyd H0) (s : List UInt8) (hl : s.length <= 1000) : FnW Tryd.prog Zke ⟨[.string (bstr s)]⟩ H0 (Zha H0 s) := by
  refine FnW.of_code Zcbf (by kernel_rfl) ?_
  generalize hR : (fun v H' => ∀ H'', Shut H0 H' H'' -> Zha H0 s v H'') = R; have done : ∀ v H', Zha H0 s v H' -> R v H' := fun v H' hm => by rw [← hR]; exact fun H2 hs => hm.shut hs
  have pers : ∀ {c : Code} {ρ : Env} {H : Heap} {K : Env -> Heap -> Prop} {Q : Post}, Za Tryd.prog Zck c ρ H (Zco K (RetW Tryd.prog Tryd.f11.results.toList fun _ _ => False)) -> Za Tryd.prog Zck c ρ H (Zco K Q) := fun h => Za.mono _ (fun e ρ H he => by
    obtain ⟨rfl, he⟩ := Zpb he; exact he) _ _ h
  rw [Zcfn]; refine Zhf (K := fun ρ H => ρ 0 = .string (bstr s) ∧ H = H0) ?_ ?_; have h := Zcaq (env0 [.string (bstr s)]) (bstr s) H0 (fun v H' => v = .string (bstr s) ∧ H' = H0) (fun _ _ => False); rw [Zbi (ρ := env0 [.string (bstr s)]) (d := 0) (v := .string (bstr s)) rfl] at h; exact pers (Eq.mp h ⟨rfl, rfl⟩); rintro ρ1 H1 ⟨a0, hH1⟩; subst hH1; rw [Zcem, Zcfo]; refine Zhf (K := fun ρ H => ∃ bp, ρ 0 = .string (bstr s) ∧ ρ 4 = .pointer (some ⟨bp, 0, none⟩) ∧ H1 bp = none ∧ Keep Nil H1 H ∧ Blk H bp Zq ⟨[.slice none 0 0]⟩) ?_ ?_; have h := Zcug ρ1 (bstr s) H1 (fun v0 v4 H => ∃ bp, v0 = .string (bstr s) ∧ v4 = .pointer (some ⟨bp, 0, none⟩) ∧ H1 bp = none ∧ Keep Nil H1 H ∧ Blk H bp Zq ⟨[.slice none 0 0]⟩) (fun _ _ => False); rw [Zbi a0] at h; exact pers (Eq.mp h (newB fun bp H2 f2 k2 b2 => ⟨bp, rfl, rfl, f2, k2, b2⟩)); clear a0; rintro ρ2 H2 ⟨bp, a0, a4, f1, k2, hb1⟩; refine Zhf (K := fun ρ H => ρ 0 = .string (bstr s) ∧ ρ 4 = .pointer (some ⟨bp, 0, none⟩) ∧ H = H2 ∧ s ≠ []) ?_ ?_; have h := Zcov ρ2 (bstr s) bp H2 (fun v0 v4 H => v0 = .string (bstr s) ∧ v4 = .pointer (some ⟨bp, 0, none⟩) ∧ H = H2 ∧ s ≠ []) R; rw [Zbi a0, Zbi a4] at h; refine toQ (Eq.mp h ?_); unfold Zbnh; rw [Zbwy]; refine IfB.intro (fun h1 => ?_) fun h1 => ⟨rfl, rfl, rfl, of_decide_eq_false h1⟩; have h1 : s = [] := of_decide_eq_true h1; refine ⟨_, _, _, Zbx hb1 0 rfl, done _ _ ⟨k2, fun _ => False, [], _, 0, NewZ.none, rfl, Zrg, .inl ⟨?_, rfl⟩⟩⟩; unfold Zct; exact if_pos h1; clear a0 a4; rintro ρ3 H3 ⟨a0, a4, hH3, hs0⟩; subst hH3; refine Zhf (K := fun ρ H => ∃ bi, ρ 0 = .string (bstr s) ∧ ρ 4 = .pointer (some ⟨bp, 0, none⟩) ∧ ρ 5 = .pointer (some ⟨bi, 0, none⟩) ∧ H3 bi = none ∧ Keep Nil H3 H ∧ Blk H bi Zeu ⟨[.bool false]⟩) ?_ ?_; have h := Zctw ρ3 (bstr s) bp H3 (fun v0 v4 v5 H => ∃ bi, v0 = .string (bstr s) ∧ v4 = .pointer (some ⟨bp, 0, none⟩) ∧ v5 = .pointer (some ⟨bi, 0, none⟩) ∧ H3 bi = none ∧ Keep Nil H3 H ∧ Blk H bi Zeu ⟨[.bool false]⟩) (fun _ _ => False); rw [Zbi a0, Zbi a4] at h; refine pers (Eq.mp h (newB fun bi H4 f4 k4 b4 => Zbhj b4 rfl fun H5 b5 o5 => ⟨bi, rfl, rfl, rfl, f4, k4.then (Zgd b5 o5) (fun x hx => .inr (by subst hx; exact f4)), b5⟩))
  clear a0 a4; rintro ρ4 H4 ⟨bi, a0, a4, a5, f2', k4, hb2⟩; have k24 := k2.trans k4; have f2 : H1 bi = none := k2.free f2'; have hb1' := k4.blk hb1 fun h => h; have hne : bp ≠ bi := fun e => hb1.some (e ▸ f2'); have hpars : Zct s = match runW (spl 32 s) ([], false) with
    | some (p, false) => if Zo p then some p else none
    | _ => none := by unfold Zct; rw [if_neg hs0]; rfl
  refine Zbiy (Zhf (K := fun ρ H => ∃ b1 b2 b3 T1 T2 T3, ρ 4 = .pointer (some ⟨bp, 0, none⟩) ∧ ρ 5 = .pointer (some ⟨bi, 0, none⟩) ∧ ρ 16 = .func (.func Zid) #[] ⟨[Zcg b1, Zcg b2, Zcg b3]⟩ ∧ (∀ x ∈ [b1, b2, b3], H4 x = none) ∧ [b1, b2, b3].Nodup ∧ Keep Nil H4 H ∧
    H b1 = some (.cells ⟨[.string (bstr [32])]⟩ T1 (0, 0)) ∧ H b2 = some (.cells ⟨[.string (bstr s)]⟩ T2 (0, 0)) ∧ H b3 = some (.cells ⟨[.int .i64 0]⟩ T3 (0, 0))) ?_ ?_)
  . have h := Zcgj ρ4 (bstr s) bp bi H4 (fun v4 v5 v16 H => ∃ b1 b2 b3 T1 T2 T3, v4 = .pointer (some ⟨bp, 0, none⟩) ∧ v5 = .pointer (some ⟨bi, 0, none⟩) ∧ v16 = .func (.func Zid) #[] ⟨[Zcg b1, Zcg b2, Zcg b3]⟩ ∧ (∀ x ∈ [b1, b2, b3], H4 x = none) ∧ [b1, b2, b3].Nodup ∧ Keep Nil H4 H ∧
      H b1 = some (.cells ⟨[.string (bstr [32])]⟩ T1 (0, 0)) ∧ H b2 = some (.cells ⟨[.string (bstr s)]⟩ T2 (0, 0)) ∧ H b3 = some (.cells ⟨[.int .i64 0]⟩ T3 (0, 0))) (fun _ _ => False)
    rw [Zbi a0, Zbi a4, Zbi a5] at h; refine pers (Eq.mp h ((Zcbv s [32]).mono fun v H hv => ?_)); obtain ⟨b1, b2, b3, T1, T2, T3, rfl, q1, q2, q3, q4, q5, q6⟩ := hv; exact ⟨_, rfl, b1, b2, b3, T1, T2, T3, rfl, rfl, rfl, q1, q2, q3, q4, q5, q6⟩
  clear a0 a4 a5; rintro ρ5 H5 ⟨b1, b2, b3, T1, T2, T3, a4, a5, a16, n0, nd, k5, x1, x2, x3⟩; have k15 := k24.trans k5; have hb15 := k5.blk hb1' fun h => h; have hb25 := k5.blk hb2 fun h => h; have old : ∀ x, H4 x ≠ none -> H5 x ≠ none ∧ x ∉ [b1, b2, b3] := fun x hx => ⟨k5.live x hx, fun hm => hx (n0 x hm)⟩; have old1 : ∀ x, H1 x ≠ none -> H5 x ≠ none ∧ x ∉ [b1, b2, b3] := fun x hx => old x (k24.live x hx); have keepX : ∀ {Z W : Nat -> Prop} {Ha Hb : Heap}, Keep Nil H1 Ha -> (∀ b, Ha b ≠ none -> Z b ∨ W b ∨ (H5 b ≠ none ∧ b ∉ [b1, b2, b3]) -> Hb b = Ha b) -> (∀ b, Ha b ≠ none -> Hb b ≠ none) -> Keep Nil H1 Hb := fun {Z W Ha Hb} k hag hlv => ⟨fun x hx hl => by
    rw [hag x (k.live x hl) (.inr (.inr (old1 x hl)))]; exact k.same x hx hl, fun x hl => hlv x (k.live x hl)⟩
  let L : Looper Zqq H5 [b1, b2, b3] := {
    J := fun Z W r Hc => PJ H1 H5 [b1, b2, b3] bp bi s Z W r Hc
    X := fun e Z W Hc => e = .goto 0 ∧ runW (spl 32 s) ([], false) = none ∧ Keep Nil H1 Hc ∧ ∀ b, Z b ∨ W b -> Hc b ≠ none ∧ (H5 b ≠ none ∨ ∀ ds, Hc b ≠ some (.deferred ds))
    stJ := fun {Z W r Hc H'} hJ hag hlv => by obtain ⟨⟨p, b, F, a, n, c, h1, h2, h3, h4, h5, h6, h7, hW⟩, hwl, hwz, hzl⟩ := hJ; refine ⟨⟨p, b, F, a, n, c, h1, h2, h3, h4, h5.agree (fun x hx hc => ?_) hlv, ?_, ?_, hW⟩, hwl, hwz, fun x hx => ?_⟩; rcases hc with hc | hc; exact hag x hx (.inr (.inl ((hW x).2 (.inr (.inr hc))))); exact hag x hx (.inr (.inr (old1 x hc))); exact h6.same (hag bp h6.some (.inr (.inl ((hW _).2 (.inl rfl))))); exact h7.same (hag bi h7.some (.inr (.inl ((hW _).2 (.inr (.inl rfl)))))); obtain ⟨q1, q2⟩ := hzl x hx; rw [hag x q1 (.inl hx)]; exact ⟨q1, q2⟩
    stX := fun {e Z W Hc H'} hX hag hlv => by obtain ⟨h1, h2, h3, h4⟩ := hX; refine ⟨h1, h2, keepX h3 hag hlv, fun x hx => ?_⟩; obtain ⟨q1, q2⟩ := h4 x hx; rw [hag x q1 (hx.imp id .inl)]; exact ⟨q1, q2⟩
    ndJ := fun {Z W r Hc} hJ x hx => by
      obtain ⟨⟨p, b, F, a, n, c, h1, h2, h3, h4, h5, h6, h7, hW⟩, hwl, hwz, hzl⟩ := hJ; rcases hx with hx | hx; exact (hzl x hx).2
      . have hb : ∃ T q, Blk Hc x T q := by rcases (hW x).1 hx with rfl | rfl | hx; exact ⟨_, _, h6⟩; exact ⟨_, _, h7⟩; obtain ⟨_, T, q, hq, _⟩ := h5.new hx; exact ⟨T, q, hq⟩
        obtain ⟨T, q, hq⟩ := hb; exact .inr fun ds e => by unfold Blk at hq; rw [hq] at e; cases e
    ndX := fun {e Z W Hc} hX x hx => (hX.2.2.2 x hx).2
  }
  have hxl : (spl 32 s).length <= s.length + 1 := Zbdj 32 s; refine Zbrl (Zcrm (P := Tryd.prog) Zcur (bs := [b1, b2, b3]) (us := [.string (bstr [32]), .string (bstr s), .int .i64 0]) (c := (([32] : List UInt8), s, (0 : Int), ())) (Z0 := fun _ => False) (W0 := fun x => x = bp ∨ x = bi) (S := fun vs ρ1 => ρ1 4 = .pointer (some ⟨bp, 0, none⟩) ∧ ρ1 5 = .pointer (some ⟨bi, 0, none⟩) ∧ ∃ v, vs = [v] ∧ ρ1 6 = v)
    (by simp only [ev]; exact a16) ⟨rfl, (by show s.length <= 1000000000000; omega), rfl⟩ nd rfl ?_ ?_ ?_ (fun x hx => hx.elim) ?_ ?_ ?_ ((hy.keep k15).ok) L ?_ rfl ?_ ?_ ?_ ?_)
  . intro i y v h1 h2
    match i, h1, h2 with
    | 0, h1, h2 => simp at h1 h2; subst h1 h2; exact ⟨T1, x1⟩
    | 1, h1, h2 => simp at h1 h2; subst h1 h2; exact ⟨T2, x2⟩
    | 2, h1, h2 => simp at h1 h2; subst h1 h2; exact ⟨T3, x3⟩
    | i + 3, h1, _ => simp at h1
  show SimL _ H5 0 [AV.str [32], .str s, .int .i64 0] _; simp only [SimL, SimV, and_true, true_and]; exact ⟨by decide, by unfold Zi; omega, by decide, by decide⟩
  show WfY [.str, .str, .int .i64] (([32] : List UInt8), s, (0 : Int), ()); exact ⟨(show ([32] : List UInt8).length <= Zi by decide), (show s.length <= Zi by unfold Zi; omega), (show InR .i64 0 from ⟨by decide, by decide⟩), trivial⟩
  intro y hym; refine ⟨id, fun hw => ?_⟩; have h4 := n0 y hym; rcases hw with rfl | rfl; exact hb1'.some h4; exact hb2.some h4; intro y hyw; rcases hyw with rfl | rfl; exact ⟨hb15.some, id⟩; exact ⟨hb25.some, id⟩; intro y hyb; have h0 := hy.live y hyb; obtain ⟨q1, q2⟩ := old1 y h0; refine ⟨q1, q2, fun hw => ?_⟩; rcases hw with rfl | rfl; exact h0 f1; exact h0 f2
  . refine ⟨⟨[], false, fun _ => False, none, 0, 0, ?_, (fun h => by cases h), ?_, ?_, .inl ⟨rfl, rfl, (SR.nil (H0 := H1)).kept k15, fun x => by simp⟩, hb15, hb25, fun x => by simp⟩, fun w hw => ?_, fun x _ h => h, fun x h => h.elim⟩
    . have e : ((Zqq.xs (([32] : List UInt8), s, (0 : Int), ()) : List StrU)).map (·.1) = spl 32 s := by
        show (Zen 32 s).map (·.1) = _; unfold Zen; rw [List.map_map]
        conv => rhs; rw [← List.map_id (spl 32 s)]
        rfl
      exact congrArg (fun z => runW z (([] : List Seg), false)) e
    show 0 + (Zen 32 s).length <= 3000; unfold Zen; rw [List.length_map]; omega; show 0 + (Zen 32 s).length <= 3000; unfold Zen; rw [List.length_map]; omega; have h1 : w.1.length <= s.length := Zcvm (s := s) w hw; exact Nat.le_trans h1 (by omega)
  . intro vs Hx hvs; obtain ⟨v, rfl⟩ := (match vs, (show vs.length = 1 from hvs) with | [a], _ => ⟨a, rfl⟩ : ∃ a, vs = [a])
    have h := Zcqq ρ5 v (.pointer (some ⟨bp, 0, none⟩)) (.pointer (some ⟨bi, 0, none⟩)) Hx (fun v4 v5 v6 H' => H' = Hx ∧ v4 = .pointer (some ⟨bp, 0, none⟩) ∧ v5 = .pointer (some ⟨bi, 0, none⟩) ∧ v6 = v) (fun _ _ => False); rw [Zbi (ρ := put ρ5 (some 17) v) (d := 4) (v := .pointer (some ⟨bp, 0, none⟩)) (by exact a4), Zbi (ρ := put ρ5 (some 17) v) (d := 5) (v := .pointer (some ⟨bi, 0, none⟩)) (by exact a5)] at h
    refine Za.mono _ (fun e ρ' H' he => ?_) _ _ (Eq.mp h ⟨rfl, rfl, rfl, rfl⟩); obtain ⟨rfl, q1, q2, q3, q4⟩ := Zpb he; exact ⟨rfl, q1, q2, q3, v, rfl, q4⟩
  . intro Z W Zx x r Hx vs ρ6 hS hJ hx hZx; obtain ⟨s4, s5, v, rfl, s6⟩ := hS; obtain ⟨w, u⟩ := x; change List UInt8 at w; have hv : v = .string (bstr w) := by have : SimL ⟨Zx, fun _ => 0, fun _ => .nilFunc⟩ Hx 0 [AV.str w] [v] := hx; simp only [SimL, SimV, and_true] at this; exact this.1
    subst hv; have hJ : PJ H1 H5 [b1, b2, b3] bp bi s Z W ((w, ()) :: r) Hx := hJ; have wz := hJ.wz; have zl := hJ.zl; have hwords := hJ.words; have h1x : ∀ x, H1 x ≠ none -> Hx x ≠ none := by obtain ⟨⟨p, b, F, a, n, c, _, _, _, _, h5, _⟩, _⟩ := hJ; exact h5.keep.live
    have hpk : Keep Nil H1 Hx := by obtain ⟨⟨p, b, F, a, n, c, _, _, _, _, h5, _⟩, _⟩ := hJ; exact h5.keep
    have wlive : ∀ x, W x -> Hx x ≠ none ∧ ∃ T q, Blk Hx x T q := by obtain ⟨⟨p, b, F, a, n, c, _, _, _, _, h5, h6, h7, hW⟩, _⟩ := hJ; intro x hx; rcases (hW x).1 hx with rfl | rfl | hx; exact ⟨h6.some, _, _, h6⟩; exact ⟨h7.some, _, _, h7⟩; obtain ⟨_, T, q, hq, _⟩ := h5.new hx; exact ⟨hq.some, T, q, hq⟩
    have zx : ∀ x, Z x ∨ Zx x -> Hx x ≠ none ∧ ¬ W x ∧ (H5 x ≠ none ∨ ∀ ds, Hx x ≠ some (.deferred ds)) := fun x hx => by rcases hx with hx | hx; exact ⟨(zl x hx).1, fun h => wz x h hx, (zl x hx).2⟩; rcases hZx x hx with h | ⟨h, ⟨cs, T, qq, e⟩, _⟩; exact ⟨(zl x h).1, fun h' => wz x h' h, (zl x h).2⟩; exact ⟨by rw [e]; simp, h, .inr fun ds e' => by rw [e] at e'; cases e'⟩
    refine Zcuz hy hne f1 f2 s4 s5 s6 hJ (fun ρ' H' hbad kk => ?_) fun ρ' H' F' p' b' a' n' c' kk hW' q1 q2 q3 q4 q5 q6 q7 => ?_; have same : ∀ x, Hx x ≠ none -> H' x = Hx x := fun x hx => kk.same x (fun h => h) hx; refine ⟨fun x hx _ => same x hx, kk.live, fun x => Z x ∨ Zx x, W, fun x hx => ⟨hx, same x (zx x hx).1⟩, fun x hx => .inl hx, fun x hx => hx.imp id .inl, fun x hx => ?_, fun x hx hz => (zx x hz).2.1 hx, .inr ⟨⟨.goto 0, rfl⟩, rfl, hbad, hpk.trans kk, fun x hx => ?_⟩⟩; rcases hx with hx | hx; exact kk.live x (zx x hx).1; exact kk.live x (wlive x hx).1; rcases hx with hx | hx; refine ⟨kk.live x (zx x hx).1, ?_⟩; rw [same x (zx x hx).1]; exact (zx x hx).2.2; obtain ⟨h1, T, q, hq⟩ := wlive x hx; refine ⟨kk.live x h1, .inr fun ds e => ?_⟩; rw [same x h1] at e; unfold Blk at hq; rw [hq] at e; cases e; have same : ∀ x, Z x ∨ Zx x -> H' x = Hx x := fun x hx => kk.same x (zx x hx).2.1 (zx x hx).1; refine ⟨fun x hx hw => kk.same x hw hx, kk.live, fun x => Z x ∨ Zx x, fun x => x = bp ∨ x = bi ∨ F' x, fun x hx => ⟨hx, same x hx⟩, hW', fun x hx => hx.imp id .inl, fun x hx => ?_, fun x hx hz => ?_, .inl ⟨rfl, ⟨⟨p', b', F', a', n', c', q4, q5, q6, q7, q1, q2, q3, fun x => Iff.rfl⟩, fun w hw => hwords w (List.mem_cons_of_mem _ hw), fun x hx hz => ?_, fun x hx => ?_⟩⟩⟩; rcases hx with hx | rfl | rfl | hx; exact kk.live x (zx x hx).1; exact q2.some; exact q3.some; exact q1.live hx; rcases hW' x hx with h | h; exact (zx x hz).2.1 h; exact (zx x hz).1 h; rcases hW' x hx with h | h; exact (zx x hz).2.1 h; exact (zx x hz).1 h; refine ⟨kk.live x (zx x hx).1, ?_⟩; rw [same x hx]; exact (zx x hx).2.2
  . rintro Z W H' ⟨⟨p, b, F, a, n, c, h1, h2, h3, h4, h5, h6, h7, hW⟩, hwl, hwz, hzl⟩; simp only [Zik, Zmr]; have h1 : runW (spl 32 s) ([], false) = some (p, b) := h1.symm; rw [h1] at hpars; rw [Zcjm]; have k16 := h5.keep; refine Zhf (K := fun ρ H => Keep Nil H1 H ∧ Zct s = none) ?_ ?_
    . have h := Zcao ρ5 bp bi H' (fun _ H => Keep Nil H1 H ∧ Zct s = none) R; rw [Zbi a4, Zbi a5] at h; refine toQ (Eq.mp h ?_); unfold Zbty; refine ⟨_, Zbx h7 0 rfl, ?_⟩; cases b
      . refine ifT rfl ⟨_, _, _, Zbx h6 0 rfl, ?_⟩; obtain ⟨z1, z2⟩ := h5.frz; refine (Zbsy (hy.keep k16) (fun x hx => h5.live hx) z2 (by omega) (by omega)).mono fun v H6 hv => ?_
        obtain ⟨k6, rfl⟩ := hv; refine ⟨_, rfl, ?_⟩; unfold Zxw; have p6 := h5.kept k6; obtain ⟨z1, z2⟩ := p6.frz; have b6 := k6.blk h6 fun h => h; cases hok : Zo p with
        | true =>
          refine ifT rfl ⟨_, _, _, Zbx b6 0 rfl, done _ _ ⟨p6.keep, F, p, _, 0, z1, rfl, z2, .inl ⟨?_, rfl⟩⟩⟩; rw [hpars]; exact if_pos hok
        | false =>
          refine ifF rfl ⟨p6.keep, ?_⟩; rw [hpars]; exact if_neg (by rw [hok]; decide)
      refine ifF rfl ?_; unfold Zxw; exact ifF rfl ⟨k16, hpars⟩
    . rintro ρ7 H7 ⟨k7, hnone⟩; refine Zbiy ?_; simp only [Za]; show Za _ _ (cR (cR (cR lpM))) ρ7 H7 _; have h := Zbom ρ7 H7 (fun _ => False) R; refine Za.mono _ (fun e ρ' H' he => ?_) _ _ (Eq.mp h (done _ _ (Zow k7 hnone))); cases e <;> simp only [Zco] at he <;> first | exact he.elim | exact he
  . rintro e Z W H' ⟨rfl, h2, h3, _⟩; simp only [Zik, Zmr]; rw [Zcay]; rw [h2] at hpars; have h := Zbom ρ5 H' (fun _ => False) R; refine Za.mono _ (fun e ρ' H' he => ?_) _ _ (Eq.mp h (done _ _ (Zow h3 hpars))); cases e <;> simp only [Zco] at he <;> first | exact he.elim | exact he
end Go.Proofs.YtflfamhboalgiaaDoor
end
section
set_option maxRecDepth 100000
namespace Go.Proofs.YtflfamhboalgiaaDoor
open Go.Sh
theorem Zctf {H : Heap} (hy : Lyd H) (s : List UInt8) (hl : s.length <= 1000) : FnW Tryd.prog Zwc ⟨[.string (bstr s), .int .u8 32]⟩ H fun v H' => Keep Nil H H' ∧ ∃ Zn, Zjt H H' Zn ∧ Zb Zn H' (.lst [.str]) (spl 32 s) v := by
  refine (FnQ.runZ (x := ((s, (32 : Int), ()) : PkTs Zyc)) Zcsy rfl rfl (Z := fun _ => False) ?_ (fun _ h => h.elim) hy.live hy.ok (K := fun y => y = (spl 32 s, ())) (Zcvg s 32 _ (by omega) rfl)).mono fun v H' hk => ?_
  show SimL (gZ fun _ => False) H 0 [AV.str s, .int .u8 32] _; simp only [SimL, SimV, and_true, true_and]; exact ⟨by unfold Zi; omega, by decide, by decide⟩
  obtain ⟨hk, y, Zn, rfl, _, hf, hv⟩ := hk; refine ⟨hk, Zn, hf, ?_⟩; have hv : SimV (gZ fun b => False ∨ Zn b) H' 0 (AV.lst [.str] (spl 32 s)) v := hv; simp only [SimV] at hv; exact Zb.ext (fun x hx => ⟨hx.elim (fun h => h.elim) id, rfl⟩) _ _ _ hv
def whR (w : List UInt8) : Int × Bool := if Lib.decDigits (val w) = w ∧ w.length <= 10 then ((val w : Int), true) else (0, false)
theorem Zcvb {H : Heap} (hy : Lyd H) (w : List UInt8) (hl : w.length <= 1000000) : FnW Tryd.prog Zuw ⟨[.string (bstr w), .int .i64 10]⟩ H fun v H' => Keep Nil H H' ∧ v = .tuple ⟨[.int .i64 (whR w).1, .bool (whR w).2]⟩ := by
  refine (FnQ.run (x := ((w, (10 : Int), ()) : PkTs Zuc)) Zclk rfl rfl (Z := fun _ => False) ?_ (fun _ h => h.elim) hy.live hy.ok (K := fun y => y = ((whR w).1, (whR w).2, ())) ?_).mono fun v H' hk => ?_; show SimL (gZ fun _ => False) H 0 [AV.str w, .int .i64 10] _; simp only [SimL, SimV, and_true, true_and]; exact ⟨by unfold Zi; omega, by decide, by decide⟩
  . refine Zcsr w 10 _ (by decide) (fun h1 h2 => ?_) fun h => ?_
    unfold whR; rw [if_pos ⟨Zxi.1 h1, h2⟩]; rfl; unfold whR; rw [if_neg fun h' => h ⟨Zxi.2 h'.1, h'.2⟩]; rfl
  . obtain ⟨hk, y, rfl, _, hv⟩ := hk; have := hv 0 (gZ fun _ => False); simp only [pksA, pkA, outA, SimV] at this; obtain ⟨vs, rfl, hvs⟩ := this
    match vs, hvs with
    | [v1, v2], hvs =>
    simp only [SimL, SimV] at hvs; obtain ⟨⟨rfl, _⟩, rfl, _⟩ := hvs; exact ⟨hk, rfl⟩
theorem Zcoi (w : List UInt8) : (((whR w).2 = true ∧ ¬ (whR w).1 < 1 ∧ ¬ (whR w).1 > 4294967295) -> (whR w).1 = (sysN w : Int) ∧ sysN w ≠ 0) ∧ (¬ ((whR w).2 = true ∧ ¬ (whR w).1 < 1 ∧ ¬ (whR w).1 > 4294967295) -> sysN w = 0) := by
  unfold whR sysN; by_cases h : Lib.decDigits (val w) = w ∧ w.length <= 10
  . rw [if_pos h]; simp only; refine ⟨fun h2 => ?_, fun h2 => ?_⟩
    . rw [if_pos ⟨by omega, h.1⟩]; omega
    . by_cases h3 : val w <= 4294967295
      . rw [if_pos ⟨h3, h.1⟩]; have : ¬ ¬ ((val w : Int) < 1) := fun h4 => h2 ⟨trivial, h4, by omega⟩
        omega
      rw [if_neg fun h4 => h3 h4.1]
  . rw [if_neg h]; refine ⟨fun h2 => by simp at h2, fun _ => ?_⟩
    rw [if_neg]; rintro ⟨h3, h4⟩; refine h ⟨h4, ?_⟩; have := Zbqy (u := val w) (k := 9) (by omega)
    rw [h4] at this; exact this
section
variable {H0 H : Heap} {F : Nat -> Prop} {a : Option Addr} {n c : Nat} {p : List Seg}
def EndR (H0 H : Heap) (F : Nat -> Prop) (p : List Seg) (b : Bool) (i : Int) (next : ((Option Addr × Nat × Nat) × Bool × Int × Unit) -> Heap -> Prop) : Prop :=
  ∀ H' F' a' n' c', PSt H0 H' F' a' n' c' p -> (∀ x, F' x -> F x ∨ H x = none) -> Keep F H H' -> next ((a', n', c'), (b, (IntKind.wrap .i64 (i + 1), ()))) H'
theorem r_j6 {xa : Option Addr} {xn xc : Nat} {b o cl : Bool} {i : Int} {num : Nat} {next : ((Option Addr × Nat × Nat) × Bool × Int × Unit) -> Heap -> Prop} {R : Value -> Heap -> Prop} (h : PSt H0 H F a n c p) (hp : p ≠ []) (hn : num < 4294967296) (hl : cnt p <= 1000000) (hpl : p.length <= 1000000)
    (hk : EndR H0 H F (Zfc p num) ((b || o) && !cl) i next) : Zxt xa xn xc b i o cl (num : Int) next a n c H R := by
  have hlen := h.len; obtain ⟨m, init, b0, l, la, lc, rfl, hm, rfl, hin, q1, q2, q3⟩ := h.last hp; have hcl : l.length <= 1000000 := by rw [Zds] at hl; simp only at hl; omega
  rw [Zia] at hk; have hw : IntKind.wrap .i64 ((n : Int) - 1) = (init.length : Int) := by
    rw [hin, Zg (by simp at hpl; omega) (by simp at hpl; omega)]; omega
  unfold Zxt; rw [hw]; refine NilP.intro _ rfl (InB.intro init.length rfl (by omega) ?_)
  rw [Zdo]; simp only [Nat.zero_add]; refine ⟨_, _, _, q2, newB fun xb H7 f7 k7 b7 => ?_⟩; have hu : (UInt32.ofNat num).toNat = num := by rw [UInt32.toNat_ofNat', Nat.mod_eq_of_lt hn]
  have hwn : IntKind.wrap .u32 (num : Int) = (num : Int) := wu32 (by omega)
  rw [hwn] at b7; refine q3 (u := UInt32.ofNat num) k7 (by rw [hu]; exact b7) (by omega) fun la' lc' H8 st k8 => ⟨_, _, _, rfl, NilP.intro _ rfl (InB.intro init.length rfl (by omega) ?_)⟩
  rw [Zdo]; simp only [Nat.zero_add]; refine st _ fun H9 F' p9 fr k9 => ?_; have k79 : Keep F H H9 := (k7.mono fun _ h => h.elim).trans k9; have fr' : ∀ x, F' x -> F x ∨ H x = none := fun x hx => (fr x hx).imp id k7.free; have fin : ∀ w, w = ((b || o) && !cl) -> Zqe (some ⟨m, 0, none⟩) n c xa xn xc i next w H9 R := fun w hw => by subst hw; unfold Zqe; exact hk H9 F' _ _ c p9 fr' k79
  unfold Zbxi; cases b
  . cases o; exact ifF rfl (ifF rfl (fin _ (by simp)))
    exact ifF rfl (ifT rfl (fin _ (by simp)))
  exact ifT rfl (fin _ (by simp))
theorem r_j4 {xa : Option Addr} {xn xc : Nat} {b o cl : Bool} {i : Int} {num : Nat} {next : ((Option Addr × Nat × Nat) × Bool × Int × Unit) -> Heap -> Prop} {R : Value -> Heap -> Prop} (h : PSt H0 H F a n c p) (hbp : b = true -> p ≠ []) (hn : num < 4294967296) (hl : cnt p <= 10000) (hpl : p.length <= 10000)
    (hk : EndR H0 H F (Zfc (Zbq p b o) num) ((b || o) && !cl) i next) : Zeo a n c xa xn xc b i o cl (num : Int) next false H R := by
  have hlen := h.len; have j5 : ∀ nw, nw = newW p b o -> Zoj a n c xa xn xc b i o cl (num : Int) next nw H R := fun nw hnw => by
    subst hnw; unfold Zoj; have hne2 : Zbq p b o ≠ [] := Zut fun e => by cases b; rfl; exact absurd e (hbp rfl)
    refine IfB.intro (fun hw => ?_) fun hw => ?_
    . have e : Zbq p b o = p ++ [(o, [])] := by unfold Zbq; rw [if_pos hw]
      rw [e] at hk; refine newB fun xb H2 f2' k2 b2 => ?_; refine (h.kept k2).push (by omega) b2 fun a' c' H3 F' p3 fr k3 => ⟨_, _, _, rfl, ?_⟩
      have k23 : Keep F H H3 := (k2.mono fun _ h => h.elim).trans k3; have fr' : ∀ x, F' x -> F x ∨ H x = none := fun x hx => (fr x hx).imp id k2.free; refine r_j6 p3 (by simp) hn ?_ ?_ fun H' F2 a2 n2 c2 r1 r4 r5 => hk H' F2 a2 n2 c2 r1 (fun x hx => ?_) ?_
      rw [Zds]; simp only [List.length_nil]; omega; simp; omega; rcases r4 x hx with e | e; exact fr' x e; exact .inr (k23.free e); refine ⟨fun x hx hl => ?_, fun x hx => r5.live x (k23.live x hx)⟩; rw [r5.same x (fun e => (fr' x e).elim hx hl) (k23.live x hl), k23.same x hx hl]
    . have e : Zbq p b o = p := by unfold Zbq; rw [if_neg (by rw [hw]; decide)]
      rw [e] at hk hne2; exact r_j6 h hne2 hn (by omega) (by omega) hk
  unfold Zeo; refine ifF rfl ?_; cases o
  case true => exact ifT rfl (j5 true (by simp [newW]))
  refine ifF rfl ?_; cases b
  case true => exact ifF rfl (j5 false (by simp [newW]))
  refine ifT rfl ?_; by_cases hp : p = []; subst hp; have : n = 0 := hlen; subst this; exact ifT rfl (j5 true (by simp [newW]))
  . obtain ⟨m, init, b0, l, la, lc, rfl, hm, rfl, hin, q1, q2, q3⟩ := h.last hp; have hw : IntKind.wrap .i64 ((n : Int) - 1) = (init.length : Int) := by
      rw [hin, Zg (by simp at hpl; omega) (by simp at hpl; omega)]; omega
    rw [hw]; refine ifF (by simp; omega) (NilP.intro _ rfl (InB.intro init.length rfl (by omega) ?_))
    rw [Zdo]; simp only [Nat.zero_add]; exact ⟨_, q1, j5 b0 (by simp [newW])⟩
theorem r_j3 (hy : Lyd H0) {xa : Option Addr} {xn xc : Nat} {b o cl : Bool} {i : Int} {w : List UInt8} {next : ((Option Addr × Nat × Nat) × Bool × Int × Unit) -> Heap -> Prop} {R : Value -> Heap -> Prop} (h : PSt H0 H F a n c p) (hbp : b = true -> p ≠ []) (hw : w.length <= 100000) (hl : cnt p <= 10000) (hpl : p.length <= 10000)
    (hbad : badW b o cl (sysN w) = true -> ∀ H', Keep Nil H H' -> R (.tuple ⟨[.slice none 0 0, .int .i64 5]⟩) H')
    (hk : badW b o cl (sysN w) = false -> EndR H0 H F (Zfc (Zbq p b o) (sysN w)) ((b || o) && !cl) i next) : Zsv a n c xa xn xc b i o next (bstr w) cl H R := by
  unfold Zsv; refine (Zcvb (hy.keep h.keep) w (by omega)).mono fun v H8 hv => ?_
  obtain ⟨k8, rfl⟩ := hv; refine ⟨_, _, rfl, ?_⟩; obtain ⟨s1, s2⟩ := Zcoi w; have p8 := h.kept k8; have bad : badW b o cl (sysN w) = true -> Zeo a n c xa xn xc b i o cl (whR w).1 next true H8 R := fun hb => by unfold Zeo; exact ifT rfl (hbad hb H8 k8)
  have zero : sysN w = 0 -> badW b o cl (sysN w) = true := fun h => by simp [badW, h]
  refine IfB.intro (fun h1 => bad (zero (s2 fun h2 => ?_))) fun h1 => IfB.intro (fun h3 => bad (zero (s2 fun h2 => ?_))) fun h3 => IfB.intro (fun h4 => bad (zero (s2 fun h2 => ?_))) fun h4 => ?_; rw [h2.1] at h1; cases h1; exact h2.2.1 (of_decide_eq_true h3); exact h2.2.2 (of_decide_eq_true h4); have h1 : (whR w).2 = true := by simpa using h1
  obtain ⟨e, e0⟩ := s1 ⟨h1, of_decide_eq_false h3, of_decide_eq_false h4⟩; have hb0 : (sysN w == 0) = false := by simpa using e0
  have hbe : badW b o cl (sysN w) = (o && b || cl && !b && !o) := by simp [badW, hb0]
  rw [hbe] at bad hk; have go : ∀ t, t = (o && b || cl && !b && !o) -> Zeo a n c xa xn xc b i o cl (whR w).1 next t H8 R := fun t ht => by
    cases t with
    | true => exact bad ht.symm
    | false =>
      rw [e]; refine r_j4 p8 hbp (Zbba w) hl hpl fun H' F' a' n' c' q1 q2 q3 => hk ht.symm H' F' a' n' c' q1 (fun x hx => (q2 x hx).imp id k8.free) ((k8.mono fun _ h => h.elim).trans q3)
  cases o
  . refine ifF rfl ?_; cases cl; exact ifF rfl (go _ (by simp))
    . refine ifT rfl ?_; cases b; exact ifT rfl (go _ (by simp))
      exact ifF rfl (go _ (by simp))
  . refine ifT rfl ?_; cases b
    . refine ifF rfl ?_; cases cl; exact ifF rfl (go _ (by simp))
      exact ifT rfl (ifT rfl (go _ (by simp)))
    exact ifT rfl (go _ (by simp))
theorem Zboi (s : List UInt8) (i : Nat) : (bstr s).data.getD i 0 = s.getD i 0 := by simp [bstr]
theorem r_j1 (hy : Lyd H0) {xa : Option Addr} {xn xc : Nat} {b o : Bool} {i : Int} {w : List UInt8} {next : ((Option Addr × Nat × Nat) × Bool × Int × Unit) -> Heap -> Prop} {R : Value -> Heap -> Prop} (h : PSt H0 H F a n c p) (hbp : b = true -> p ≠ []) (hw : w.length <= 100000) (hl : cnt p <= 10000) (hpl : p.length <= 10000)
    (hbad : badW b o (Zce w) (sysN (cutC w)) = true -> ∀ H', Keep Nil H H' -> R (.tuple ⟨[.slice none 0 0, .int .i64 5]⟩) H')
    (hk : badW b o (Zce w) (sysN (cutC w)) = false -> EndR H0 H F (Zfc (Zbq p b o) (sysN (cutC w))) ((b || o) && !(Zce w)) i next) : Zqp a n c xa xn xc b i o next (bstr w) H R := by
  have hC := Zbvv w; have j2 : ∀ t, t = Zce w -> Zvp a n c xa xn xc b i (bstr w) o next t H R := fun t ht => by
    subst ht; unfold Zvp; refine IfB.intro (fun h1 => ?_) fun h1 => ?_
    . rcases List.eq_nil_or_concat w with rfl | ⟨q, x, rfl⟩; cases h1
      . rw [List.concat_eq_append] at *; have hlen : (q ++ [x]).length = q.length + 1 := by simp
        have e1 : IntKind.wrap .i64 (((bstr (q ++ [x])).size : Int) - 1) = (q.length : Int) := by rw [Zee, hlen, Zg (by omega) (by omega)]; omega
        rw [e1]; refine ⟨by omega, by rw [Zee]; omega, ?_⟩
        rw [Int.toNat_natCast]; show Zsv a n c xa xn xc b i o next ((bstr (q ++ [x])).extract 0 q.length) true H R
        rw [Znm _ (Nat.zero_le _), List.drop_zero, List.take_left]; have e2 : cutC (q ++ [x]) = q := by unfold cutC; rw [if_pos h1]; simp
        rw [e2, h1] at hbad hk; exact r_j3 hy h hbp (by omega) hl hpl hbad hk
    . have e2 : cutC w = w := by unfold cutC; rw [if_neg (by rw [h1]; decide)]
      rw [e2, h1] at hbad hk; exact r_j3 hy h hbp hw hl hpl hbad hk
  unfold Zqp; refine IfB.intro (fun h1 => ?_) fun h1 => j2 false ?_
  . rw [Zee] at h1; have h1 : 0 < w.length := by have := of_decide_eq_true h1; omega
    rcases List.eq_nil_or_concat w with rfl | ⟨q, x, rfl⟩; simp at h1
    . rw [List.concat_eq_append] at *; have hlen : (q ++ [x]).length = q.length + 1 := by simp
      have e1 : IntKind.wrap .i64 (((bstr (q ++ [x])).size : Int) - 1) = (q.length : Int) := by rw [Zee, hlen, Zg (by omega) (by omega)]; omega
      rw [e1]; refine ⟨by omega, by rw [Zee]; omega, j2 _ ?_⟩
      rw [Int.toNat_natCast, Zboi]; unfold Zce; rw [List.getLast?_concat, show (q ++ [x]).getD q.length 0 = x by simp]
      have hx := UInt8.toNat_lt x; by_cases he : x = 125; subst he; rfl
      . have h2 : ¬ x.toNat = 125 := fun e => he (by rw [← UInt8.toNat_inj, e]; rfl)
        have h3 : (some x == some (125 : UInt8)) = false := by simp [he]
        rw [h3]; exact beq_eq_false_iff_ne.2 fun e => h2 (by omega)
  . rw [Zee] at h1; have h1 : w = [] := List.eq_nil_of_length_eq_zero (by have := of_decide_eq_false h1; omega)
    subst h1; rfl
theorem Zcrx (hy : Lyd H0) {xa : Option Addr} {xn xc : Nat} {b : Bool} {i : Int} {w : List UInt8} {next : ((Option Addr × Nat × Nat) × Bool × Int × Unit) -> Heap -> Prop} {R : Value -> Heap -> Prop} (h : PSt H0 H F a n c p) (hbp : b = true -> p ≠ []) (hw : w.length <= 100000) (hl : cnt p <= 10000) (hpl : p.length <= 10000)
    (hbad : stepW (p, b) w = none -> ∀ H', Keep Nil H H' -> R (.tuple ⟨[.slice none 0 0, .int .i64 5]⟩) H')
    (hk : ∀ st, stepW (p, b) w = some st -> EndR H0 H F st.1 st.2 i next) :
    IfB (decide ((((bstr w).size : Int) : Int) > 0))
      (InB 0 (bstr w).size fun x34i => Zoc a n c xa xn xc b i (bstr w) next (((((bstr w).data.getD x34i 0).toNat : Int) : Int) == 123) H R)
      (Zoc a n c xa xn xc b i (bstr w) next false H R) := by
  have hO := Zbjr w; have hbad' : badW b (Zbn w) (Zce (cutO w)) (sysN (cutC (cutO w))) = true -> ∀ H', Keep Nil H H' -> R (.tuple ⟨[.slice none 0 0, .int .i64 5]⟩) H' := fun hb => hbad (by unfold stepW; rw [if_pos hb])
  have hk' : badW b (Zbn w) (Zce (cutO w)) (sysN (cutC (cutO w))) = false -> EndR H0 H F (Zfc (Zbq p b (Zbn w)) (sysN (cutC (cutO w)))) ((b || Zbn w) && !(Zce (cutO w))) i next := fun hb => hk _ (by unfold stepW; rw [if_neg (by rw [hb]; decide)])
  have j0 : ∀ t, t = Zbn w -> Zoc a n c xa xn xc b i (bstr w) next t H R := fun t ht => by
    subst ht; unfold Zoc; refine IfB.intro (fun h1 => ?_) fun h1 => ?_
    . cases w with
      | nil => cases h1
      | cons x r =>
        refine ⟨by decide, by rw [Zee]; simp only [List.length_cons]; omega, ?_⟩
        show Zqp a n c xa xn xc b i (Zbn (x :: r)) next ((bstr (x :: r)).extract (1 : Int).toNat (bstr (x :: r)).size) H R
        rw [Zee, Znm _ (by show 1 <= _; simp), List.take_length]
        have e : cutO (x :: r) = r := by unfold cutO; rw [if_pos h1]; rfl
        rw [e] at hbad' hk'; exact r_j1 hy h hbp (by show r.length <= _; simp only [List.length_cons] at hw; omega) hl hpl hbad' hk'
    . have e : cutO w = w := by unfold cutO; rw [if_neg (by rw [h1]; decide)]
      rw [e] at hbad' hk'; exact r_j1 hy h hbp hw hl hpl hbad' hk'
  refine IfB.intro (fun h1 => ?_) fun h1 => j0 false ?_
  . rw [Zee] at h1; cases w with
    | nil => simp at h1
    | cons x r =>
      refine ⟨by decide, by rw [Zee]; simp only [List.length_cons]; omega, j0 _ ?_⟩
      rw [Zboi]; show (((x.toNat : Int) : Int) == 123) = (some x == some (123 : UInt8)); by_cases he : x = 123; subst he; rfl
      . have h2 : ¬ x.toNat = 123 := fun e => he (by rw [← UInt8.toNat_inj, e]; rfl)
        have h3 : (some x == some (123 : UInt8)) = false := by simp [he]
        rw [h3]; exact beq_eq_false_iff_ne.2 fun e => h2 (by omega)
  . rw [Zee] at h1; have h1 : w = [] := List.eq_nil_of_length_eq_zero (by have := of_decide_eq_false h1; omega)
    subst h1; rfl
end
theorem Zcsi {H0 : Heap} (hy : Lyd H0) (s : List UInt8) (hl : s.length <= 1000) : FnW Tryd.prog Zmd ⟨[.string (bstr s)]⟩ H0 (Zha H0 s) := by
  refine Zcee _ ?_; unfold Zbaq; generalize hR : (fun v H' => ∀ H'', Shut H0 H' H'' -> Zha H0 s v H'') = R; have done : ∀ v H', Zha H0 s v H' -> R v H' := fun v H' hm => by rw [← hR]; exact fun H2 hs => hm.shut hs
  refine newB fun ob H1 f1 k1 b1 => ?_; rw [Zbwy]; have sr := SR.start f1 b1 k1; refine IfB.intro (fun h1 => ?_) fun h1 => ?_; have h1 : s = [] := of_decide_eq_true h1; obtain ⟨z1, z2⟩ := sr.frz; refine done _ _ ⟨k1, _, [], _, 0, z1, rfl, z2, .inl ⟨?_, rfl⟩⟩; unfold Zct; exact if_pos h1; have hs0 : s ≠ [] := of_decide_eq_false h1; have hpars : Zct s = match runW (spl 32 s) ([], false) with
    | some (p, false) => if Zo p then some p else none
    | _ => none := by unfold Zct; rw [if_neg hs0]; rfl
  refine (Zctf (hy.keep k1) s hl).mono fun v H2 hv => ?_; obtain ⟨k2, Zs, hfs, hcs⟩ := hv; obtain ⟨xa, xn, xc, rfl⟩ := Zhq hcs; have hxn : xn = (spl 32 s).length := (Zjh (ks := [.str]) hcs).1; have hxl : (spl 32 s).length <= s.length + 1 := Zbdj 32 s; have hwl : ∀ w ∈ spl 32 s, w.length <= s.length := Zbxd s.length s (Nat.le_refl _); have ps : PSt H0 H2 (fun x => (some ⟨ob, 0, none⟩ : Option Addr) = some ⟨x, 0, none⟩) (some ⟨ob, 0, none⟩) 0 0 [] := .inl ⟨rfl, rfl, sr.kept k2, fun x => Iff.rfl⟩; have zs : ∀ x, Zs x -> H2 x ≠ none ∧ H0 x = none := fun x hx => ⟨(hfs x hx).2.1, k1.free (hfs x hx).1⟩; have zF : ∀ x, Zs x -> ¬ (some ⟨ob, 0, none⟩ : Option Addr) = some ⟨x, 0, none⟩ := fun x hx e => by simp only [Option.some.injEq, Addr.mk.injEq, and_true] at e; subst e; exact b1.some (hfs _ hx).1
  refine ⟨xa, xn, xc, rfl, fun k x H => ∃ (pre post : List (List UInt8)) (p : List Seg) (b : Bool) (F : Nat -> Prop) (a : Option Addr) (n c : Nat), x = ((a, n, c), (b, ((pre.length : Int), ()))) ∧ k = post.length ∧ spl 32 s = pre ++ post ∧ runW post (p, b) = runW (spl 32 s) ([], false) ∧ (b = true -> p ≠ []) ∧ p.length <= pre.length ∧ cnt p <= pre.length ∧ PSt H0 H F a n c p ∧ (∀ x, Zs x -> H x = H2 x ∧ ¬ F x),
    (spl 32 s).length, ⟨[], spl 32 s, [], false, _, _, 0, 0, rfl, rfl, rfl, rfl, (fun h => by cases h), Nat.le_refl _, Nat.le_refl _, ps, fun x hx => ⟨rfl, zF x hx⟩⟩, ?_⟩
  rintro k x H ⟨pre, post, p, b, F, a, n, c, rfl, rfl, hpp, hrun, hbp, hpl, hcl, pst, hz⟩ g; have hpn : (spl 32 s).length = pre.length + post.length := by rw [hpp, List.length_append]
  show Zbcp xa xn xc a n c b (pre.length : Int) H _ R; unfold Zbcp; cases post with
  | nil =>
    simp only [List.length_nil, Nat.add_zero] at hpn; have hrun : runW (spl 32 s) ([], false) = some (p, b) := hrun.symm; rw [hrun] at hpars; refine ifF (decide_eq_false (by rw [hxn]; omega)) ?_
    have z3 := pst.frz; cases b
    . refine ifF rfl ((Zchn (hy.keep pst.keep) (fun x hx => pst.live hx) z3.2 (by omega) (by omega)).mono fun v H6 hv => ?_)
      obtain ⟨k6, rfl⟩ := hv; refine ⟨_, rfl, ?_⟩; unfold Zvu; have p6 := pst.kept k6; obtain ⟨z1, z2⟩ := p6.frz; cases hok : Zo p with
      | true =>
        refine ifF rfl (done _ _ ⟨p6.keep, F, p, _, 0, z1, rfl, z2, .inl ⟨?_, rfl⟩⟩); rw [hpars]; exact if_pos hok
      | false =>
        refine ifT rfl (done _ _ (Zow p6.keep ?_)); rw [hpars]; exact if_neg (by rw [hok]; decide)
    . refine ifT rfl ?_; unfold Zvu; exact ifT rfl (done _ _ (Zow pst.keep hpars))
  | cons w post =>
    simp only [List.length_cons] at hpn; have hlt : pre.length < xn := by omega
    have hget : (spl 32 s)[pre.length]? = some w := by rw [hpp]; simp
    have hw : w.length <= s.length := hwl w (by rw [hpp]; simp)
    have hcs' : Zb Zs H (.lst [.str]) (spl 32 s) (.slice xa xn xc) := Zb.ext (fun x hx => ⟨hx, (hz x hx).1⟩) _ _ _ hcs; refine ifT (decide_eq_true (by show (pre.length : Int) < _; omega)) ?_
    simp only [Zb] at hcs'; obtain ⟨a', n', c', e, _, _, _, hat⟩ := hcs'; cases e; obtain ⟨zb, zo, rfl, hzz, cs, T, fr, hb, hc⟩ := hat (by omega)
    have hcc := hc pre.length w hget; simp only [Zc, Zb, and_true] at hcc; obtain ⟨v, hv1, rfl, _⟩ := hcc; refine NilP.intro _ rfl (InB.intro pre.length rfl hlt ?_); rw [Zdo]; refine ⟨bstr w, ?_, ?_⟩; simp only [Heap.cell, hb]; exact hv1
    . have hstep : runW (w :: post) (p, b) = match stepW (p, b) w with | some st' => runW post st' | none => none := rfl
      rw [hrun] at hstep; refine Zcrx hy pst hbp (by omega) (by omega) (by omega) (fun hn H' kk => done _ _ (Zow (pst.keep.trans kk) ?_)) fun st hst H' F' a' n' c' q1 q2 q3 => ?_
      rw [hn] at hstep; rw [hpars, hstep]
      . rw [hst] at hstep; simp only at hstep; have hne2 : Zbq p b (Zbn w) ≠ [] := Zut fun e => by cases b; rfl; exact absurd e (hbp rfl)
        have hste : st = (Zfc (Zbq p b (Zbn w)) (sysN (cutC (cutO w))), (b || Zbn w) && !(Zce (cutO w))) := by unfold stepW at hst; split at hst; cases hst; simp only [Option.some.injEq] at hst; exact hst.symm
        obtain ⟨c1, c2⟩ := Zbkj hne2 (sysN (cutC (cutO w))); obtain ⟨c3, c4⟩ := Zbtf p b (Zbn w); refine ⟨post.length, by simp, pre ++ [w], post, st.1, st.2, F', a', n', c', ?_, rfl, by rw [hpp]; simp, hstep.symm, fun _ e => ?_, ?_, ?_, q1, fun x hx => ⟨?_, fun e => ?_⟩⟩
        . have : IntKind.wrap .i64 ((pre.length : Int) + 1) = ((pre ++ [w]).length : Int) := by rw [Zg (by omega) (by omega)]; simp
          show _ = ((a', n', c'), (st.2, (((pre ++ [w]).length : Int), ()))); rw [← this]
        . rw [hste] at e; have h0 : (Zbq p b (Zbn w)).length = 0 := by rw [← c2]; exact congrArg List.length e
          exact hne2 (List.eq_nil_of_length_eq_zero h0)
        rw [hste]; simp only [List.length_append, List.length_singleton]; omega; rw [hste]; simp only [List.length_append, List.length_singleton]; omega
        . have hl2 : H x ≠ none := by rw [(hz x hx).1]; exact (zs x hx).1
          rw [q3.same x (hz x hx).2 hl2]; exact (hz x hx).1
        rcases q2 x e with e | e; exact (hz x hx).2 e; rw [(hz x hx).1] at e; exact (zs x hx).1 e
end Go.Proofs.YtflfamhboalgiaaDoor
end
section
set_option maxRecDepth 100000
set_option maxHeartbeats 2000000
namespace Go.Proofs.YtflfamhboalgiaaDoor
open Go.Sh
theorem Zcai {H : Heap} {n : Nat} (hn : H n = none) (o : Obj) : Keep Nil H (H.upd n o) := (Keep.refl _ _).new hn
theorem Zcfs : ∃ it, Tryd.prog.info? Zh = some it ∧ it.size = 2 ∧ it.bytes = 32 := by
  have h : (Tryd.prog.info? Zh).map (fun i => (i.size, i.bytes)) = some (2, 32) := by kernel_rfl
  cases hi : Tryd.prog.info? Zh with
  | none => rw [hi] at h; cases h
  | some i => rw [hi] at h; simp only [Option.map_some, Option.some.injEq, Prod.mk.injEq] at h; exact ⟨i, rfl, h.1, h.2⟩
theorem Zbox : Zdb Tryd.prog Zh = some [.bool false, .slice none 0 0] := by kernel_rfl
theorem Zjj : Tryd.prog.underlying Zq = some (.slice Zh) := by kernel_rfl
theorem Zcpx : Tryd.prog.underlying Zgu = some (.int .i64) := by kernel_rfl
theorem Zsl : szOf Tryd.prog Zh = some 2 := by kernel_rfl
theorem Zcnh {S : Nat -> Prop} {H H1 H2 : Heap} (k : Keep S H H1) (hs : Shut H H1 H2) : Keep S H H2 :=
  ⟨fun b hb ha => by
    rcases hs b with e | ⟨e, _, _⟩; rw [e]; exact k.same b hb ha
    . exact absurd e ha, fun b ha => by
    rcases hs b with e | ⟨e, _, _⟩; rw [e]; exact k.live b ha
    . exact absurd e ha⟩
theorem Znb {H0 Hs H1 H2 : Heap} {a : Option Addr} {n c sz : Nat} {T : TypeId} {xs : List Value} (ho : Sh.Own H0 H1 a n c sz T xs) (hs : Shut Hs H1 H2) : Sh.Own H0 H2 a n c sz T xs := by refine ⟨ho.1, ho.2.1, ?_⟩; rcases ho.2.2 with h1 | ⟨m, rest, h1, h2, h3, h4⟩; exact .inl h1; exact .inr ⟨m, rest, h1, h2, Zgt h3 hs, h4⟩
theorem Zcbe {pre old post new : List Value} (h : old.length = new.length) : putRow (⟨pre ++ (old ++ post)⟩ : Array Value) pre.length new = ⟨pre ++ (new ++ post)⟩ := by
  apply Array.ext_getElem?
  intro j; rw [Zij _ _ _ _ (by simp only [List.size_toArray, List.length_append]; omega)]
  simp only [List.getElem?_toArray]; by_cases h1 : j < pre.length; rw [if_neg (by omega), List.getElem?_append_left h1, List.getElem?_append_left h1]
  . by_cases h2 : j < pre.length + new.length; rw [if_pos (by omega), List.getElem?_append_right (by omega), List.getElem?_append_left (by omega)]
    . rw [if_neg (by omega), List.getElem?_append_right (by omega), List.getElem?_append_right (by omega), List.getElem?_append_right (by omega), List.getElem?_append_right (by omega)]
      congr 1; omega
theorem Zmw {c : List Value} {o : Nat} {pre old post new : List Value} (hc : c = pre ++ (old ++ post)) (ho : pre.length = o) (h : old.length = new.length) : putRow (⟨c⟩ : Array Value) o new = ⟨pre ++ (new ++ post)⟩ := by subst hc ho; exact Zcbe h
theorem Zcue {H0 H : Heap} {a : Option Addr} {n cap : Nat} {xs new : List Value} {vb i : Nat} (ho : Sh.Own H0 H a n cap 2 Zh xs) (k0 : Keep Nil H0 H) (hcap : cap <= Zi) (hn : n <= 1000) (hi : i <= n) (hv : Blk H vb Zh ⟨new⟩) (hnl : new.length = 2) (hpl : ∀ v ∈ new, Zby v = true) (hpx : ∀ v ∈ xs, Zby v = true) (hne : a ≠ some ⟨vb, 0, none⟩) :
    FnW Tryd.prog Ztx ⟨[.slice a n cap, .int .i64 (i : Int), .slice (some ⟨vb, 0, none⟩) 1 1]⟩ H fun r H' => ∃ a' cap', r = .slice a' (n + 1) cap' ∧ cap' <= Zi ∧ Sh.Own H0 H' a' (n + 1) cap' 2 Zh (xs.take (2 * i) ++ (new ++ xs.drop (2 * i))) ∧
      (∀ m, a' = some ⟨m, 0, none⟩ -> a = some ⟨m, 0, none⟩ ∨ H m = none) ∧ Keep (fun x => a = some ⟨x, 0, none⟩) H H' := by
  have hxl := ho.len; have hle := ho.le; unfold Zi at hcap; obtain ⟨it, i1, i2, i3⟩ := Zcfs; have fin : ∀ (a' : Option Addr) (cap' : Nat) (H1 : Heap), cap' <= Zi -> Sh.Own H0 H1 a' (n + 1) cap' 2 Zh (xs.take (2 * i) ++ (new ++ xs.drop (2 * i))) -> (∀ m, a' = some ⟨m, 0, none⟩ -> a = some ⟨m, 0, none⟩ ∨ H m = none) -> Keep (fun x => a = some ⟨x, 0, none⟩) H H1 -> ∀ (v : Value), v = .slice a' (n + 1) cap' -> ∀ H2, Shut H H1 H2 ->
      ∃ a' cap', v = .slice a' (n + 1) cap' ∧ cap' <= Zi ∧ Sh.Own H0 H2 a' (n + 1) cap' 2 Zh (xs.take (2 * i) ++ (new ++ xs.drop (2 * i))) ∧ (∀ m, a' = some ⟨m, 0, none⟩ -> a = some ⟨m, 0, none⟩ ∨ H m = none) ∧ Keep (fun x => a = some ⟨x, 0, none⟩) H H2 :=
    fun a' cap' H1 h1 h2 h3 h4 v hv H2 hs => ⟨a', cap', hv, h1, Znb h2 hs, h3, Zcnh h4 hs⟩
  refine Zcji a n cap i (some ⟨vb, 0, none⟩) 1 1 ?_; have e1 : IntKind.wrap .i64 ((n : Int) + ((1 : Nat) : Int)) = ((n + 1 : Nat) : Int) := by rw [Zg] <;> omega
  have e2 : IntKind.wrap .i64 ((i : Int) + ((1 : Nat) : Int)) = ((i + 1 : Nat) : Int) := by rw [Zg] <;> omega
  unfold Zbcu; rw [e1, e2]; refine ⟨by omega, by omega, ifF rfl (IfB.intro (fun hin => ?_) fun hin => IfB.intro (fun hg => ?_) fun hg => ?_)⟩
  ·
    have hin : i = n := by have := eq_of_beq hin; omega
    subst hin; refine Zlh (k := 1) (xc := 1) (new := new) Zjj Zjj i1 i2 i3 (by decide) Zbox rfl ho k0 (Reads.blk hv (by omega) fun j hj => by simp) hpl (by omega) fun a' cap' H1 hcc h1 h2 h3 h4 => ?_
    refine ⟨a', i + 1, cap', rfl, fin a' cap' H1 (hcc hcap) ?_ h2 h3 _ rfl⟩; rw [List.take_of_length_le (by omega), List.drop_eq_nil_of_le (by omega), List.append_nil]
    exact h1
  ·
    have hin : i < n := by
      rcases Nat.lt_or_ge i n with h | h; exact h
      . have : i = n := by omega
        subst this; simp at hin
    have hg : cap < n + 1 := by have := of_decide_eq_true hg; omega
    refine ⟨by omega, by omega, ?_⟩
    simp only [Int.toNat_natCast]; have e3 : IntKind.wrap .i64 (((n + 1 : Nat) : Int) - (i : Int)) = ((n + 1 - i : Nat) : Int) := by rw [Zg] <;> omega
    rw [e3]; have hr : Reads H a (i * 2) (xs.take (i * 2)) := ho.reads.take (by omega)
    refine AppW.zerosGrow Zjj Zcpx i1 i2 i3 Zbox rfl (by decide) (by decide) (by decide) (by omega) (by omega) hr (by omega) fun m cap' hm hge hcc => ?_
    have ein : i + (n + 1 - i) = n + 1 := by omega
    rw [ein] at hge ⊢; have km := Zcai hm (.cells ⟨xs.take (i * 2) ++ repL (n + 1 - i) [.bool false, .slice none 0 0] ++ repL (cap' - (n + 1)) [.bool false, .slice none 0 0]⟩ Zh); have hbm : Blk (H.upd m (.cells ⟨xs.take (i * 2) ++ repL (n + 1 - i) [.bool false, .slice none 0 0] ++ repL (cap' - (n + 1)) [.bool false, .slice none 0 0]⟩ Zh (0, 0))) m Zh ⟨xs.take (i * 2) ++ repL (n + 1 - i) [.bool false, .slice none 0 0] ++ repL (cap' - (n + 1)) [.bool false, .slice none 0 0]⟩ := Blk.upd_eq; generalize H.upd m (.cells ⟨xs.take (i * 2) ++ repL (n + 1 - i) [.bool false, .slice none 0 0] ++ repL (cap' - (n + 1)) [.bool false, .slice none 0 0]⟩ Zh (0, 0)) = H1 at km hbm ⊢; have z1l : (repL (n + 1 - i) [Value.bool false, .slice none 0 0]).length = (n + 1 - i) * 2 := by rw [Zfg]; rfl
    have z2l : (repL (cap' - (n + 1)) [Value.bool false, .slice none 0 0]).length = (cap' - (n + 1)) * 2 := by rw [Zfg]; rfl
    generalize repL (n + 1 - i) [Value.bool false, .slice none 0 0] = z1 at hbm z1l; generalize repL (cap' - (n + 1)) [Value.bool false, .slice none 0 0] = z2 at hbm z2l; have htl : (xs.take (i * 2)).length = i * 2 := by rw [List.length_take]; omega
    refine ⟨_, _, _, rfl, by omega, by omega, ?_⟩
    simp only [Int.toNat_natCast]; rw [if_neg (by omega)]
    try simp only [Option.map_some]
    rw [Zcr rfl, Nat.zero_add]; have hv1 : Blk H1 vb Zh ⟨new⟩ := km.blk hv fun h => h.elim; refine Zdv.intro Zjj Zsl hbm (by simp only [List.size_toArray, List.length_append, htl, z1l, z2l]; omega) (new := new) ?_ hpl fun H2 hb2 ho2 => ?_
    . rw [show min 1 (n + 1 - i) = 1 by omega]
      exact Reads.blk hv1 (by omega) fun j hj => by simp
    rw [Zmw (pre := xs.take (i * 2)) (old := z1.take 2) (post := z1.drop 2 ++ z2) (by rw [List.append_assoc, ← List.append_assoc (z1.take 2), List.take_append_drop]) htl (by rw [List.length_take]; omega)] at hb2
    refine ⟨_, rfl, by omega, by omega, ?_⟩
    simp only [Int.toNat_natCast]; refine ⟨by omega, by omega, ?_⟩
    simp only [Int.toNat_natCast]; rw [if_neg (by omega), if_neg (by omega)]
    try simp only [Option.map_some]
    rw [Zcr rfl, Nat.zero_add]; obtain ⟨ma, rfl⟩ := ho.addr (by omega)
    obtain ⟨rest, hba, hrl⟩ := ho.blk rfl; have hma : ma ≠ m := fun e => by subst e; exact hba.some hm
    have hba2 : Blk H2 ma Zh ⟨xs ++ rest⟩ := (km.blk hba fun h => h.elim).same (ho2 ma hma); try simp only [Option.map_some]
    rw [Zcr rfl, Nat.zero_add]; have hdl : (xs.drop (i * 2)).length = (n - i) * 2 := by rw [List.length_drop]; omega
    refine Zdv.intro Zjj Zsl hb2 (by simp only [List.size_toArray, List.length_append, htl, z1l, z2l, hnl, List.length_drop]; omega) (new := xs.drop (i * 2)) ?_ (fun v hv => hpx v (List.mem_of_mem_drop hv)) fun H3 hb3 ho3 => ?_
    . rw [show min (n - i) (n + 1 - (i + 1)) = n - i by omega]
      refine Reads.blk hba2 hdl fun j hj => ?_; simp only [List.getElem?_toArray]; rw [List.getElem?_append_left (by omega), List.getElem?_drop]
    rw [Zmw (pre := xs.take (i * 2) ++ new) (old := z1.drop 2) (post := z2) (by simp [List.append_assoc]) (by rw [List.length_append, htl, hnl]; omega) (by rw [List.length_drop, z1l, hdl]; omega)] at hb3
    refine ⟨_, rfl, ?_⟩; have kk : Keep (fun x => (some ⟨ma, 0, none⟩ : Option Addr) = some ⟨x, 0, none⟩) H H3 := by
      refine ⟨fun x hx hl => ?_, fun x hl => ?_⟩
      . have : x ≠ m := fun e => by subst e; exact hl hm
        rw [ho3 x this, ho2 x this]; exact km.same x (fun h => h.elim) hl
      . have : x ≠ m := fun e => by subst e; exact hl hm
        rw [ho3 x this, ho2 x this]; exact km.live x hl
    refine fin (some ⟨m, 0, none⟩) cap' H3 (by unfold Zi; omega) ?_ (fun x hx => by cases hx; exact .inr hm) kk _ rfl
    refine ⟨by simp only [List.length_append, List.length_take, List.length_drop, hnl]; omega, by omega, .inr ⟨m, z2, rfl, k0.free hm, ?_, by rw [z2l]⟩⟩
    have e4 : 2 * i = i * 2 := by omega
    rw [e4]; have : (xs.take (i * 2) ++ (new ++ xs.drop (i * 2)) ++ z2) = xs.take (i * 2) ++ new ++ (xs.drop (i * 2) ++ z2) := by simp [List.append_assoc]
    rw [this]; exact hb3
  ·
    have hin : i < n := by
      rcases Nat.lt_or_ge i n with h | h; exact h
      . have : i = n := by omega
        subst this; simp at hin
    have hg : n + 1 <= cap := by have := of_decide_eq_false hg; omega
    obtain ⟨ma, rfl⟩ := ho.addr (by omega)
    obtain ⟨rest, hba, hrl⟩ := ho.blk rfl; have hvm : vb ≠ ma := fun e => hne (by rw [e])
    refine ⟨by omega, by omega, ?_⟩
    simp only [Int.toNat_natCast]; refine ⟨by omega, by omega, ?_⟩
    simp only [Int.toNat_natCast]; rw [if_neg (by omega)]
    try simp only [Option.map_some]
    rw [Zcr rfl, Nat.zero_add]; refine Zcer Tryd.func65 (by kernel_rfl) (by kernel_rfl) (by kernel_rfl) (e := Extern.SlicesOverlaps.overlaps #[Zq, Zq] #[Zeu]) (by kernel_rfl) ?_
    refine Zcjp Zjj Zsl hv hba hvm ⟨false, rfl, ifT rfl ⟨by omega, by omega, ?_⟩⟩
    simp only [Int.toNat_natCast]; refine ⟨by omega, by omega, ?_⟩
    simp only [Int.toNat_natCast]; rw [if_neg (by omega), if_neg (by omega)]
    try simp only [Option.map_some]
    rw [Zcr rfl, Zcr rfl, Nat.zero_add, Nat.zero_add]; have htl : (xs.take (i * 2)).length = i * 2 := by rw [List.length_take]; omega
    have hdl : (xs.drop (i * 2)).length = (n - i) * 2 := by rw [List.length_drop]; omega
    refine Zdv.intro Zjj Zsl hba (by simp only [List.size_toArray, List.length_append]; omega) (new := xs.drop (i * 2)) ?_ (fun v hv => hpx v (List.mem_of_mem_drop hv)) fun H2 hb2 ho2 => ?_
    . rw [show min (n + 1 - i) (n + 1 - (i + 1)) = n - i by omega]
      refine Reads.blk hba hdl fun j hj => ?_; simp only [List.getElem?_toArray]; rw [List.getElem?_append_left (by omega), List.getElem?_drop]
    have hX : ∃ Y old : List Value, xs.drop (i * 2) ++ rest = Y ++ (old ++ rest.drop 2) ∧ Y.length = 2 ∧ old.length = (n - i) * 2 := by
      refine ⟨(xs.drop (i * 2) ++ rest).take 2, ((xs.drop (i * 2) ++ rest).drop 2).take ((n - i) * 2), ?_, by rw [List.length_take, List.length_append]; omega, by rw [List.length_take, List.length_drop, List.length_append]; omega⟩
      have h1 : rest.drop 2 = ((xs.drop (i * 2) ++ rest).drop 2).drop ((n - i) * 2) := by
        have hnil : (xs.drop (i * 2)).drop (2 + (n - i) * 2) = [] := List.drop_eq_nil_of_le (by omega)
        rw [List.drop_drop, List.drop_append, hnil, List.nil_append]; congr 1; omega
      rw [h1, List.take_append_drop, List.take_append_drop]
    obtain ⟨Y, old, hY, hYl, holdl⟩ := hX; rw [Zmw (pre := xs.take (i * 2) ++ Y) (old := old) (post := rest.drop 2) (by rw [List.append_assoc, ← hY, ← List.append_assoc, List.take_append_drop]) (by rw [List.length_append, htl, hYl]; omega) (by rw [holdl, hdl])] at hb2
    refine ⟨_, rfl, by omega, by omega, ?_⟩
    simp only [Int.toNat_natCast]; rw [if_neg (by omega)]
    try simp only [Option.map_some]
    rw [Zcr rfl, Nat.zero_add]; have hv2 : Blk H2 vb Zh ⟨new⟩ := hv.same (ho2 vb hvm); refine Zdv.intro Zjj Zsl hb2 (by simp only [List.size_toArray, List.length_append, htl, hYl, hdl, List.length_drop, hrl]; omega) (new := new) ?_ hpl fun H3 hb3 ho3 => ?_
    . rw [show min 1 (n + 1 - i) = 1 by omega]
      exact Reads.blk hv2 (by omega) fun j hj => by simp
    rw [Zmw (pre := xs.take (i * 2)) (old := Y) (post := xs.drop (i * 2) ++ rest.drop 2) (by simp [List.append_assoc]) htl (by rw [hYl, hnl])] at hb3
    refine ⟨_, rfl, ?_⟩; have kk : Keep (fun x => (some ⟨ma, 0, none⟩ : Option Addr) = some ⟨x, 0, none⟩) H H3 := by
      refine ⟨fun x hx hl => ?_, fun x hl => ?_⟩
      . have : x ≠ ma := fun e => hx (by rw [e])
        rw [ho3 x this, ho2 x this]
      by_cases e : x = ma; subst e; exact hb3.some; rw [ho3 x e, ho2 x e]; exact hl
    refine fin (some ⟨ma, 0, none⟩) cap H3 hcap ?_ (fun x hx => .inl hx) kk _ rfl; refine ⟨by simp only [List.length_append, List.length_take, List.length_drop, hnl]; omega, by omega, .inr ⟨ma, rest.drop 2, rfl, ho.free rfl, ?_, by rw [List.length_drop]; omega⟩⟩
    have e4 : 2 * i = i * 2 := by omega
    rw [e4]; have : (xs.take (i * 2) ++ (new ++ xs.drop (i * 2)) ++ rest.drop 2) = xs.take (i * 2) ++ (new ++ (xs.drop (i * 2) ++ rest.drop 2)) := by simp [List.append_assoc]
    rw [this]; exact hb3
end Go.Proofs.YtflfamhboalgiaaDoor
end
section
set_option maxRecDepth 100000
namespace Go.Proofs.YtflfamhboalgiaaDoor
open Go.Sh
theorem Zcnf {H0 H : Heap} {a : Option Addr} {n k cap sz : Nat} {T : TypeId} {xs : List Value} (h : Sh.Own H0 H a n cap sz T xs) (hk : k <= n) : Sh.Own H0 H a k cap sz T (xs.take (k * sz)) := by
  obtain ⟨hl, hc, hr⟩ := h; have hm : k * sz <= n * sz := Nat.mul_le_mul_right _ hk; refine ⟨by rw [List.length_take]; omega, by omega, ?_⟩
  rcases hr with ⟨rfl, rfl, rfl⟩ | ⟨m, rest, rfl, h0, hb, hr⟩; exact .inl ⟨rfl, by omega, rfl⟩
  . refine .inr ⟨m, xs.drop (k * sz) ++ rest, rfl, h0, by rw [← List.append_assoc, List.take_append_drop]; exact hb, ?_⟩
    rw [List.length_append, List.length_drop, hl, hr, ← Nat.sub_mul, ← Nat.add_mul]; congr 1; omega
theorem Zcfc (l : List UInt32) (k : Nat) : (v32 l).take (k * 1) = v32 (l.take k) := by rw [Nat.mul_one]; exact (List.map_take).symm
theorem rd32 {Z : Nat -> Prop} {H : Heap} {l : List UInt32} {a : Option Addr} {n c : Nat} (h : Zb Z H kU32 l (.slice a n c)) : n = l.length ∧ n <= c ∧ c <= Zi ∧ Reads H a (n * 1) (v32 l) := by
  obtain ⟨a', n', c', new, e, h1, h2, h3, h4, h5, h6⟩ := Zmh (g := gZ Z) (ks := [.int .u32]) (xs := l) h; cases e; have h1 : l.length = n := h1; refine ⟨h1.symm, h2, h3, ?_⟩; have e : new = v32 l := by
    have hl := h4.len; apply List.ext_getElem?
    intro i; rcases Nat.lt_or_ge i l.length with hi | hi; have := h5 i l[i] (List.getElem?_eq_getElem hi); simp only [Zc, Zb, and_true] at this; obtain ⟨v, hv, rfl, _⟩ := this; simp only [List.length_cons, List.length_nil, Nat.zero_add, Nat.mul_one, Nat.add_zero] at hv; rw [hv]; simp only [v32, List.getElem?_map, List.getElem?_eq_getElem hi, Option.map_some]; rfl; rw [List.getElem?_eq_none (by rw [hl]; simp only [List.length_cons, List.length_nil]; omega), List.getElem?_eq_none (by simp only [v32, List.length_map]; omega)]
  rw [e] at h4; exact h4
theorem Zyk (l : List UInt32) : ∀ v ∈ v32 l, Zby v = true := fun v hv => by obtain ⟨x, _, rfl⟩ := List.mem_map.1 hv; rfl
section
variable {H0 H H' : Heap} {F : Nat -> Prop} {a : Option Addr} {n c : Nat} {p : List Seg}
theorem PSt.toSR (h : PSt H0 H F a n c p) : n = p.length ∧ ∃ Z xs, SR H0 H Z a c p xs ∧ ∀ x, F x ↔ (a = some ⟨x, 0, none⟩ ∨ Z x) := by
  rcases h with ⟨rfl, rfl, h, hF⟩ | ⟨Z, init, b, l, xs, la, lc, rfl, rfl, h, hF⟩; exact ⟨rfl, _, _, h, fun x => by rw [hF]; simp⟩
  refine ⟨rfl, _, _, h.close, fun x => ?_⟩; rw [hF]; constructor; rintro (h | h | h); exact .inl h; exact .inr (.inr h); exact .inr (.inl h); rintro (h | h | h); exact .inl h; exact .inr (.inr h); exact .inr (.inl h)
theorem PSt.put (h : PSt H0 H F a n c p) {xb lc : Nat} {b : Bool} {l : List UInt32} {la : Option Addr} {K : Value -> Heap -> Prop} (hn : p.length <= 100000) (hx : Blk H xb Zh ⟨[.bool b, .slice la l.length lc]⟩) (hl : Sh.Own H0 H la l.length lc 1 Zl (v32 l)) (hz : ∀ m, la = some ⟨m, 0, none⟩ -> ¬ F m) (hc : lc <= Zi)
    (hk : ∀ a' c' H' F', PSt H0 H' F' a' (n + 1) c' (p ++ [(b, l)]) -> (∀ x, F' x -> F x ∨ la = some ⟨x, 0, none⟩ ∨ H x = none) -> Keep F H H' -> K (.slice a' (n + 1) c') H') :
    AppW Tryd.prog #[Zq, Zq] Zq [.slice a n c, .slice (some ⟨xb, 0, none⟩) 1 1] H K := by
  obtain ⟨rfl, Z, xs, hs, hF⟩ := h.toSR; refine hs.push hn hx hl (fun m e hm => hz m e ((hF m).2 (.inr hm))) hc fun a' c' H' q1 q2 q3 => ?_; refine hk a' c' H' (fun x => a' = some ⟨x, 0, none⟩ ∨ la = some ⟨x, 0, none⟩ ∨ Z x) (.inr ⟨Z, p, b, l, xs, la, lc, rfl, by simp, q1, fun x => Iff.rfl⟩) (fun x e => ?_) (q3.mono fun x e => (hF x).2 (.inl e))
  rcases e with e | e | e; rcases q2 x e with e | e; exact .inl ((hF x).2 (.inl e)); exact .inr (.inr e); exact .inr (.inl e); exact .inl ((hF x).2 (.inr e))
theorem PSt.mono {S : Nat -> Prop} {H1 : Heap} (h : PSt H1 H F a n c p) (k : Keep S H0 H1) (k0 : Keep Nil H0 H) : PSt H0 H F a n c p := by have sr : ∀ {Z p xs}, SR H1 H Z a c p xs -> SR H0 H Z a c p xs := fun h => ⟨h.own.mono k, h.ok, h.new.early k, h.cap, k0⟩; rcases h with ⟨h1, h2, h, hF⟩ | ⟨Z, init, b, l, xs, la, lc, h1, h2, h, hF⟩; exact .inl ⟨h1, h2, sr h, hF⟩; exact .inr ⟨Z, init, b, l, xs, la, lc, h1, h2, ⟨h.own.mono k, h.ok, h.new.early k, h.cap, k0, h.xl, h.last.mono k, h.lz, h.lcap⟩, hF⟩
theorem PSt.lastN (h : PSt H0 H F a n c p) (hp : p ≠ []) : ∃ m init b l la lc, a = some ⟨m, 0, none⟩ ∧ F m ∧ p = init ++ [(b, l)] ∧ n = init.length + 1 ∧ H.cell ⟨m, init.length * 2, none⟩ = some (.bool b) ∧ H.cell ⟨m, init.length * 2 + 1, none⟩ = some (.slice la l.length lc) ∧
    (∀ {xb : Option Addr} {k xc : Nat} {new : List UInt32} {H1 : Heap} {K : Value -> Heap -> Prop}, Keep Nil H H1 -> new.length = k -> Reads H1 xb (k * 1) (v32 new) -> l.length + k <= 10000000 ->
      (∀ la' lc' H2, (∀ K' : Heap -> Prop, (∀ H3 F', PSt H0 H3 F' a n c (init ++ [(b, l ++ new)]) -> (∀ x, F' x -> F x ∨ H1 x = none) -> Keep F H1 H3 -> K' H3) -> Zt H2 ⟨m, init.length * 2 + 1, none⟩ (.slice la' (l.length + k) lc') K') -> Keep F H1 H2 -> K (.slice la' (l.length + k) lc') H2) ->
      AppW Tryd.prog #[Zbt, Zbt] Zbt [.slice la l.length lc, .slice xb k xc] H1 K) := by
  rcases h with ⟨h, _⟩ | ⟨Z, init, b, l, xs, la, lc, rfl, rfl, h, hF⟩; exact absurd h hp; obtain ⟨m, hm⟩ := h.own.addr (by omega)
  obtain ⟨rest, hb, hr⟩ := h.own.blk hm; have e1 : ∀ j, (xs ++ [Value.bool b, .slice la l.length lc] ++ rest)[init.length * 2 + j]? = ([Value.bool b, .slice la l.length lc] ++ rest)[j]? := fun j => by rw [List.append_assoc, List.getElem?_append_right (by rw [h.xl]; omega), h.xl, Nat.add_sub_cancel_left]
  refine ⟨m, init, b, l, la, lc, hm, (hF m).2 (.inl hm), rfl, by simp, Zbx hb _ (by rw [show init.length * 2 = init.length * 2 + 0 from rfl, e1 0]; rfl), Zbx hb _ (by rw [e1 1]; rfl), ?_⟩
  intro xb k xc new H1 K k1 hx hrd hl hK; have h1 := h.kept k1; refine h1.grow (new := new) (k := k) (xc := xc) hx (by omega) hrd fun la' lc' H2 m' q0 e _ _ q1 q2 => ?_
  rw [hm] at e; simp only [Option.some.injEq, Addr.mk.injEq, and_true] at e; subst e; refine hK la' lc' H2 (fun K' hK' => q1 K' fun H3 q3 q4 => hK' H3 (fun x => a = some ⟨x, 0, none⟩ ∨ la' = some ⟨x, 0, none⟩ ∨ Z x) (.inr ⟨Z, init, b, l ++ new, xs, la', lc', rfl, by simp, q3, fun x => Iff.rfl⟩) (fun x e => ?_) (q4.mono fun x e => ?_)) (q2.mono fun x e => (hF x).2 (.inr (.inl e)))
  rcases e with e | e | e; exact .inl ((hF x).2 (.inl e)); exact (q0 x e).imp (fun e => (hF x).2 (.inr (.inl e))) id; exact .inl ((hF x).2 (.inr (.inr e))); rcases e with e | e; exact (hF x).2 (.inr (.inl e)); subst e; exact (hF _).2 (.inl hm)
theorem SR.shut {Z : Nat -> Prop} {xs : List Value} (h : SR H0 H Z a c p xs) {Hs : Heap} (hs : Shut H0 H H') : SR H0 H' Z a c p xs :=
  ⟨Znb h.own hs, h.ok.ext fun x hx => ⟨hx, by
    obtain ⟨_, T, q, hq, _⟩ := h.new x hx; rw [hq]; exact Zgt hq hs⟩, h.new.shut hs, h.cap, Zdx h.keep hs⟩
theorem PSt.shut (h : PSt H0 H F a n c p) (hs : Shut H0 H H') : PSt H0 H' F a n c p := by rcases h with ⟨h1, h2, h, hF⟩ | ⟨Z, init, b, l, xs, la, lc, h1, h2, h, hF⟩; exact .inl ⟨h1, h2, h.shut (Hs := H0) hs, hF⟩; refine .inr ⟨Z, init, b, l, xs, la, lc, h1, h2, ⟨Znb h.own hs, h.ok.ext fun x hx => ⟨hx, ?_⟩, h.new.shut hs, h.cap, Zdx h.keep hs, h.xl, Znb h.last hs, h.lz, h.lcap⟩, hF⟩; obtain ⟨_, T, q, hq, _⟩ := h.new x hx; rw [hq]; exact Zgt hq hs
end
theorem Zcjh {H : Heap} {Z : Nat -> Prop} {xs : List UInt32} {v : Value} (h : Zb Z H kU32 xs v) (hn : xs.length <= 1000000) : FnW Tryd.prog Zjr ⟨[v]⟩ H fun u H' => Keep Nil H H' ∧ ∃ a c, u = .slice a xs.length c ∧ Sh.Own H H' a xs.length c 1 Zl (v32 xs) ∧ c <= Zi := by
  obtain ⟨a, n, c, rfl⟩ := Zhq h; obtain ⟨rfl, h2, h3, h4⟩ := rd32 h; refine Zcfu a xs.length c ?_; unfold Zbcr; cases a with
  | none =>
    have h0 : xs.length = 0 := by have := h4.2; simpa using this
    have : xs = [] := List.eq_nil_of_length_eq_zero h0; subst this; exact ifT rfl fun H2 hs => ⟨Zdx (Keep.refl _ _) hs, none, 0, rfl, Own.nil, by decide⟩
  | some a =>
    refine ifF rfl (newB fun m H1 hm k1 hb => ?_); obtain ⟨it, i1, i2, i3⟩ := Zsy; refine Zlh (e := Zl) (xe := Zl) (z := [.int .u32 0]) (by kernel_rfl) (by kernel_rfl) i1 i2 i3 (by decide) (by kernel_rfl) rfl (Sh.Own.start hm hb) k1 (new := v32 xs) (h4.keep k1 fun _ _ h => h) (Zyk xs) (by omega) fun a' cap' H' q0 q1 q2 q3 q4 => ?_
    refine ⟨a', 0 + xs.length, cap', rfl, fun H2 hs => ⟨Zdx q4 hs, a', cap', by rw [Nat.zero_add], ?_, q0 (by decide)⟩⟩
    rw [Nat.zero_add, List.nil_append] at q1; exact Znb q1 hs
end Go.Proofs.YtflfamhboalgiaaDoor
end
section
set_option maxRecDepth 100000
namespace Go.Proofs.YtflfamhboalgiaaDoor
open Go.Sh
theorem Zbos {H H' : Heap} {bs : List Nat} (hb : ∀ b ∈ bs, H b ≠ none) (k : Keep Nil H H') : Zil bs H H' := fun x hx => by obtain ⟨o, ho⟩ := Option.ne_none_iff_exists'.1 (hb x hx); exact ⟨⟨o, ho⟩, k.same _ (fun h => h.elim) (hb x hx)⟩
theorem Zbqi {H : Heap} {bs : List Nat} (hb : ∀ b ∈ bs, H b ≠ none) : ∀ b ∈ bs, ∃ o, H b = some o := fun b h => Option.ne_none_iff_exists'.1 (hb b h)
theorem oneB {H : Heap} {b : Nat} (h : H b ≠ none) : ∀ x ∈ [b], H x ≠ none := fun x hx => by rw [List.mem_singleton] at hx; subst hx; exact h
def Zbzg (H : Heap) (p : List Seg) (v : Value) (H' : Heap) : Prop := ∃ F a n c, v = .slice a n c ∧ PSt H H' F a n c p
theorem PSt.start {H0 H : Heap} {m : Nat} (h0 : H0 m = none) (hb : Blk H m Zh ⟨[]⟩) (k : Keep Nil H0 H) : PSt H0 H (fun x => (some ⟨m, 0, none⟩ : Option Addr) = some ⟨x, 0, none⟩) (some ⟨m, 0, none⟩) 0 0 [] := .inl ⟨rfl, rfl, SR.start h0 hb k, fun _ => Iff.rfl⟩
theorem Zbez {H : Heap} {Z : Nat -> Prop} {p : List Seg} {v : Value} (hz : ∀ x, Z x -> H x ≠ none) (hp : Zb Z H Zbz p v) (hl : p.length <= 10000) (hs : ∀ s ∈ p, s.2.length <= 100000) : FnW Tryd.prog Zhe ⟨[v]⟩ H (Zbzg H p) := by
  obtain ⟨pa, pn, pc, rfl⟩ := Zhq hp; have hpn : pn = p.length := (Zjh (ks := Zbl) hp).1; refine Zcri pa pn pc ?_; unfold Zbce; refine newB fun ob H1 f1 k1 b1 => ?_; refine ⟨fun k x Hc => ∃ (pre post : List Seg) (F : Nat -> Prop) (a : Option Addr) (n c : Nat), x = ((a, n, c), ((pre.length : Int), ())) ∧ k = post.length ∧ p = pre ++ post ∧ PSt H Hc F a n c pre, p.length, ⟨[], p, _, _, 0, 0, rfl, rfl, rfl, PSt.start f1 b1 k1⟩, ?_⟩; rintro k x H2 ⟨pre, post, F, a, n, c, rfl, rfl, hpp, ps⟩ g; have hpl : p.length = pre.length + post.length := by rw [hpp, List.length_append]
  have kk := ps.keep; have hp2 : Zb Z H2 Zbz p (.slice pa pn pc) := Zb.ext (fun x hx => ⟨hx, kk.same x (fun h => h) (hz x hx)⟩) _ _ _ hp; show Zbbh pa pn pc a n c (pre.length : Int) H2 _ _; unfold Zbbh; cases post with
  | nil =>
    simp only [List.append_nil] at hpp; subst hpp; exact ifF (decide_eq_false (by omega)) fun H3 hs3 => ⟨F, a, n, c, rfl, ps.shut hs3⟩
  | cons s post =>
    simp only [List.length_cons] at hpl; have hget : p[pre.length]? = some s := by rw [hpp]; simp
    obtain ⟨b, o, sa, sn, sc, rfl, hzb, hbl, q1, q2, q3⟩ := Zns hp2 hget; obtain ⟨rfl, r2, r3, r4⟩ := rd32 q3; have hsl : s.2.length <= 100000 := hs s (by rw [hpp]; simp)
    refine ifT (decide_eq_true (by omega)) ⟨[b], Zbqi (oneB hbl), NilP.intro _ rfl (InB.intro pre.length rfl (by omega) ?_)⟩
    rw [Zdo]; refine ⟨by simp, _, q1, newB fun m H3 f3 k3 b3 => NilP.intro _ rfl (InB.intro pre.length rfl (by omega) ?_)⟩
    rw [Zdo]; have q2' : H3.cell ⟨b, o + pre.length * 2 + 1, none⟩ = some (.slice sa s.2.length sc) := by rw [← q2]; simp only [Heap.cell]; rw [k3.same b (fun h => h) hbl]
    refine ⟨_, _, _, q2', ?_⟩; obtain ⟨it, i1, i2, i3⟩ := Zsy; have k03 := kk.trans k3; refine Zlh (e := Zl) (xe := Zl) (z := [.int .u32 0]) (by kernel_rfl) (by kernel_rfl) i1 i2 i3 (by decide) (by kernel_rfl) rfl (Sh.Own.start (H0 := H2) f3 b3) k3 (new := v32 s.2) (r4.keep k3 fun _ _ h => h) (Zyk s.2) (by omega) fun a' cap' H4 w0 w1 w2 w3 w4 => ?_
    rw [Nat.zero_add, List.nil_append] at w1; rw [Nat.zero_add]; have ps4 := ps.kept w4; refine ⟨_, _, _, rfl, Zbos (oneB hbl) w4, newB fun xb H5 f5 k5 b5 => ?_⟩; have own5 := Zfb (w1.mono kk) k5 fun _ h => h.elim; refine (ps4.kept k5).put (l := s.2) (lc := cap') (by omega) b5 own5 (fun x e hF => ?_) (w0 (by decide)) fun a6 c6 H6 F6 t1 t2 t3 => ?_
    exact ps.live hF (w1.free e)
    . refine ⟨a6, n + 1, c6, rfl, post.length, by simp, pre ++ [s], post, F6, a6, n + 1, c6, ?_, rfl, by rw [hpp]; simp, t1⟩
      have : IntKind.wrap .i64 ((pre.length : Int) + 1) = ((pre ++ [s]).length : Int) := by rw [Zg (by omega) (by omega)]; simp
      rw [this]
theorem Zcnu {H : Heap} {Z : Nat -> Prop} {p : List Seg} {v : Value} (hz : ∀ x, Z x -> H x ≠ none) (hp : Zb Z H Zbz p v) (hl : p.length <= 10000) (hs : ∀ s ∈ p, s.2.length <= 100000) : FnW Tryd.prog Zhw ⟨[v]⟩ H (Zbzg H p) := by
  obtain ⟨pa, pn, pc, rfl⟩ := Zhq hp; have hpn : pn = p.length := (Zjh (ks := Zbl) hp).1; refine Zcbb pa pn pc ?_; unfold Zzg; obtain ⟨it, i1, i2, i3⟩ := Zbij; refine Zfn.intro (e := Zh) (l := 0) (c := pn) (z := [.bool false, .slice none 0 0]) (by kernel_rfl) i1 (by kernel_rfl) (by rw [i2]; rfl) (Nat.zero_le _) (by omega) (by rw [i3]; omega) fun m hm => ?_
  refine ⟨_, _, _, rfl, ?_⟩; have k1 : Keep Nil H (H.upd m (.cells ⟨repL pn [.bool false, .slice none 0 0]⟩ Zh)) := (Keep.refl _ _).new hm; have b1 : Blk (H.upd m (.cells ⟨repL pn [.bool false, .slice none 0 0]⟩ Zh)) m Zh ⟨repL pn [.bool false, .slice none 0 0]⟩ := Blk.upd_eq; show Zgz _ _ (H.upd m (.cells ⟨repL pn [.bool false, .slice none 0 0]⟩ Zh)) _; generalize H.upd m (.cells ⟨repL pn [.bool false, .slice none 0 0]⟩ Zh) = H1 at k1 b1; have ps0 : PSt H H1 (fun x => (some ⟨m, 0, none⟩ : Option Addr) = some ⟨x, 0, none⟩) (some ⟨m, 0, none⟩) 0 pn [] :=
    .inl ⟨rfl, rfl, ⟨⟨by simp, Nat.zero_le _, .inr ⟨m, _, rfl, hm, b1, by rw [Zfg]; rfl⟩⟩, fun i r h => by simp at h, NewZ.none, by unfold Zi; omega, k1⟩, fun _ => Iff.rfl⟩
  refine ⟨fun k x Hc => ∃ (pre post : List Seg) (F : Nat -> Prop) (a : Option Addr) (n c : Nat), x = ((a, n, c), ((pre.length : Int), ())) ∧ k = post.length ∧ p = pre ++ post ∧ PSt H Hc F a n c pre, p.length, ⟨[], p, _, _, 0, pn, rfl, rfl, rfl, ps0⟩, ?_⟩; rintro k x H2 ⟨pre, post, F, a, n, c, rfl, rfl, hpp, ps⟩ g; have hpl : p.length = pre.length + post.length := by rw [hpp, List.length_append]
  have kk := ps.keep; have hz2 : ∀ x, Z x -> H2 x ≠ none := fun x hx => kk.live x (hz x hx); have hp2 : Zb Z H2 Zbz p (.slice pa pn pc) := Zb.ext (fun x hx => ⟨hx, kk.same x (fun h => h) (hz x hx)⟩) _ _ _ hp; show Zbjc pa pn pc a n c (pre.length : Int) H2 _ _; unfold Zbjc; cases post with
  | nil =>
    simp only [List.append_nil] at hpp; subst hpp; exact ifF (decide_eq_false (by omega)) fun H3 hs3 => ⟨F, a, n, c, rfl, ps.shut hs3⟩
  | cons s post =>
    simp only [List.length_cons] at hpl; have hget : p[pre.length]? = some s := by rw [hpp]; simp
    obtain ⟨b, o, sa, sn, sc, rfl, hzb, hbl, q1, q2, q3⟩ := Zns hp2 hget; have hsl : s.2.length <= 100000 := hs s (by rw [hpp]; simp)
    refine ifT (decide_eq_true (by omega)) (NilP.intro _ rfl (InB.intro pre.length rfl (by omega) ?_))
    rw [Zdo]; refine ⟨_, q1, _, _, _, q2, newB fun sb H3 f3 k3 b3 => ?_⟩; refine Zbaj (b := sb) [.bool s.1, .slice sa sn sc] 0 [] [.bool false, .slice none 0 0] H3 b3 rfl rfl (by simp [Zby]) fun H5 b5 o5 => ?_
    have b5 : Blk H5 sb Zh ⟨[.bool s.1, .slice sa sn sc]⟩ := b5; have k25 : Keep Nil H2 H5 := Zkl k3 (Zgd b5 o5) fun x hx => by subst hx; exact f3
    have q5 : Zb Z H5 kU32 s.2 (.slice sa sn sc) := Zb.ext (fun x hx => ⟨hx, k25.same x (fun h => h) (hz2 x hx)⟩) _ _ _ q3; refine ⟨[sb], Zbqi (oneB b5.some), by simp, _, Zbx b5 0 rfl, _, _, _, Zbx b5 1 rfl, (Zcjh q5 (by omega)).mono fun u H6 hu => ?_⟩
    obtain ⟨k6, la, lc, rfl, own6, hlc⟩ := hu; refine ⟨_, _, _, rfl, Zbos (oneB b5.some) k6, newB fun xb H7 f7 k7 b7 => ?_⟩; have k57 := k6.trans k7; have own7 := Zfb (own6.mono (kk.trans k25)) k7 fun _ h => h.elim; have ps7 := ps.kept (k25.trans k57); refine ps7.put (l := s.2) (lc := lc) (by omega) b7 own7 (fun x e hF => ?_) hlc fun a6 c6 H8 F6 t1 t2 t3 => ?_
    exact (k25.live x (ps.live hF)) (own6.free e)
    . refine ⟨a6, n + 1, c6, rfl, post.length, by simp, pre ++ [s], post, F6, a6, n + 1, c6, ?_, rfl, by rw [hpp]; simp, t1⟩
      have : IntKind.wrap .i64 ((pre.length : Int) + 1) = ((pre ++ [s]).length : Int) := by rw [Zg (by omega) (by omega)]; simp
      rw [this]
end Go.Proofs.YtflfamhboalgiaaDoor
end
section
set_option maxRecDepth 100000
namespace Go.Proofs.YtflfamhboalgiaaDoor
open Go.Sh
theorem Zcua {H : Heap} {x y : Nat} (hx : x < 18446744073709551616) (hy : y < 18446744073709551616) : FnW Tryd.prog Zbpf ⟨[.int .u64 (x : Int), .int .u64 (y : Int)]⟩ H fun v H' => v = .tuple ⟨[.int .u64 ((x * y / 18446744073709551616 : Nat) : Int), .int .u64 ((x * y % 18446744073709551616 : Nat) : Int)]⟩ ∧ H' = H := by
  refine ⟨⟨_, Tryd.func64, by kernel_rfl, by kernel_rfl⟩, fun W hW => ?_⟩
  subst hW; refine (Tryd.bits_Mul x y hx hy W).mono ?_; rintro e W' ⟨rfl, rfl⟩; exact ⟨_, rfl, ⟨rfl, rfl⟩, Rest.refl _⟩
theorem Zbfn : Tryd.prog.underlying Zbt = some (.slice Zl) := by kernel_rfl
theorem Zbjl : szOf Tryd.prog Zl = some 1 := by kernel_rfl
theorem Zcgp (n : Nat) (v : Value) : repL n [v] = List.replicate n v := by
  induction n with
  | zero => rfl
  | succ n ih => simp only [repL, ih, List.replicate_succ]; rfl
theorem Zcmu {H : Heap} {xb : Nat} {u : UInt32} {n : Nat} (h1 : 1 <= n) (hn : n <= 1000) (hx : Blk H xb Zl ⟨[.int .u32 (u.toNat : Int)]⟩) :
    FnW Tryd.prog Zvv ⟨[.slice (some ⟨xb, 0, none⟩) 1 1, .int .i64 (n : Int)]⟩ H fun v H' => Keep Nil H H' ∧ ∃ m, v = .slice (some ⟨m, 0, none⟩) n n ∧ Sh.Own H H' (some ⟨m, 0, none⟩) n n 1 Zl (v32 (List.replicate n u)) := by
  refine Zcsw _ _ _ _ ?_; unfold Zbej; have w1 : IntKind.wrap .u64 (((1 : Nat) : Int)) = ((1 : Nat) : Int) := by rw [Zoq]; omega
  have w2 : IntKind.wrap .u64 (n : Int) = (n : Int) := by rw [Zoq]; omega
  rw [w1, w2]; refine ifF (decide_eq_false (by omega)) ((Zcua (x := 1) (y := n) (by decide) (by omega)).mono ?_)
  rintro v H1 ⟨rfl, rfl⟩; rw [show (1 * n / 18446744073709551616 : Nat) = 0 by omega, show (1 * n % 18446744073709551616 : Nat) = n by omega]
  refine ⟨_, _, rfl, ifF rfl ?_⟩; unfold Zbae; have w3 : IntKind.wrap .i64 (n : Int) = (n : Int) := Zg (by omega) (by omega)
  rw [w3]; refine ifF (decide_eq_false (by omega)) ?_
  obtain ⟨it, i1, i2, i3⟩ := Zsy; refine Zfn.intro (e := Zl) (l := n) (c := n) (z := [.int .u32 0]) Zbfn i1 (by kernel_rfl) (by rw [i2]; rfl) (Nat.le_refl _) (by omega) (by rw [i3]; omega) fun m hm => ⟨_, _, _, rfl, ?_⟩
  rw [Zcgp]; have k1 : Keep Nil H1 (H1.upd m (.cells ⟨List.replicate n (.int .u32 0)⟩ Zl)) := (Keep.refl _ _).new hm; have b1 : Blk (H1.upd m (.cells ⟨List.replicate n (.int .u32 0)⟩ Zl)) m Zl ⟨List.replicate n (.int .u32 0)⟩ := Blk.upd_eq; show Zdv _ _ _ _ (H1.upd m (.cells ⟨List.replicate n (.int .u32 0)⟩ Zl)) _; generalize H1.upd m (.cells ⟨List.replicate n (.int .u32 0)⟩ Zl) = H3 at k1 b1 ⊢; have hx3 := k1.blk hx fun h => h; have rep : ∀ {H' : Heap} {k j : Nat}, Blk H' m Zl ⟨v32 (List.replicate k u) ++ (List.replicate j (.int .u32 0) ++ List.replicate (n - k - j) (.int .u32 0))⟩ -> Blk H' m Zl ⟨v32 (List.replicate k u) ++ (List.replicate j (.int .u32 0) ++ List.replicate (n - k - j) (.int .u32 0))⟩ := fun h => h; refine Zdv.intro Zbfn Zbjl b1 (by simp) (new := [.int .u32 (u.toNat : Int)]) ?_ (by simp [Zby]) fun H4 b4 o4 => ?_
  . rw [show min 1 n = 1 by omega]
    exact Reads.blk hx3 rfl fun j hj => by simp
  have hrow := Zmw (c := List.replicate n (Value.int .u32 0)) (o := 0) (pre := []) (old := [.int .u32 0]) (post := List.replicate (n - 1) (.int .u32 0)) (new := [.int .u32 (u.toNat : Int)]) (by rw [List.nil_append]; cases n with | zero => omega | succ k => rfl) rfl rfl
  rw [hrow] at b4; have k4 : Keep Nil H1 H4 := k1.then (Zgd b4 o4) fun x hx => .inr (by subst hx; exact hm)
  refine ⟨_, rfl, ?_⟩; refine ⟨fun k x Hc => ∃ j : Nat, 1 <= j ∧ j <= n ∧ k = n - j ∧ x = ((j : Int), ()) ∧ Keep Nil H1 Hc ∧ Blk Hc m Zl ⟨v32 (List.replicate j u) ++ List.replicate (n - j) (.int .u32 0)⟩, n - 1, ⟨1, Nat.le_refl _, h1, rfl, by rw [show min 1 n = 1 by omega], k4, b4⟩, ?_⟩
  rintro k x H5 ⟨j, hj1, hjn, rfl, rfl, k5, b5⟩ g; show Zbhg _ _ _ (j : Int) H5 _ _; unfold Zbhg; refine IfB.intro (fun h => ?_) fun h => ?_
  . have h : j < n := by have := of_decide_eq_true h; omega
    refine ⟨by omega, by omega, by omega, by omega, ?_⟩
    simp only [Int.toNat_natCast]; rw [if_neg (by omega)]
    simp only [Option.map_some]; rw [Zcr rfl, Nat.zero_add, Nat.mul_one]; have e0 : ∀ i, i <= n - j -> List.replicate (n - j) (Value.int .u32 0) = List.replicate i (.int .u32 0) ++ List.replicate (n - j - i) (.int .u32 0) := fun i hi => by rw [List.replicate_append_replicate]; congr 1; omega
    obtain ⟨t, ht⟩ : ∃ t, t = min j (n - j) := ⟨_, rfl⟩; refine Zdv.intro Zbfn Zbjl b5 (by simp only [v32, List.size_toArray, List.length_append, List.length_map, List.length_replicate]; omega) (new := v32 (List.replicate t u)) ?_ (Zyk _) fun H6 b6 o6 => ?_
    . rw [← ht]; refine Reads.blk b5 (by simp [v32]) fun i hi => ?_
      simp only [List.getElem?_toArray, Nat.zero_add]; rw [List.getElem?_append_left (by simp [v32]; omega)]
      simp only [v32, List.map_replicate, List.getElem?_replicate]; rw [if_pos (by omega), if_pos (by omega)]
    . rw [Zmw (pre := v32 (List.replicate j u)) (old := List.replicate t (.int .u32 0)) (post := List.replicate (n - j - t) (.int .u32 0)) (by rw [← e0 t (by omega)]) (by simp [v32]) (by simp [v32])] at b6
      rw [← ht]; refine ⟨_, rfl, n - (j + t), by omega, j + t, by omega, by omega, rfl, ?_, k5.then (Zgd b6 o6) (fun x hx => .inr (by subst hx; exact hm)), ?_⟩
      . have : IntKind.wrap .i64 ((j : Int) + (t : Int)) = ((j + t : Nat) : Int) := by rw [Zg (by omega) (by omega)]; omega
        rw [this]
      . rw [show n - (j + t) = n - j - t by omega]
        have : v32 (List.replicate (j + t) u) = v32 (List.replicate j u) ++ v32 (List.replicate t u) := by rw [← List.replicate_append_replicate]; exact List.map_append
        rw [this, List.append_assoc]; exact b6
  . have h : j = n := by have := of_decide_eq_false h; omega
    subst h; intro H6 hs; refine ⟨Zdx k5 hs, m, rfl, Znb (Own.row hm ?_ (by simp [v32])) hs⟩
    have e : List.replicate (j - j) (Value.int .u32 0) = [] := by rw [Nat.sub_self]; rfl
    rw [e, List.append_nil] at b5; exact b5
def Zei : List Seg -> Option (List UInt32 × List Seg)
  | (false, l) :: r => some (l, r)
  | _ => none
def Zbm (p : List Seg) (u : UInt32) (n : Nat) : List Seg := if n = 0 then p else match Zei p with
  | some (l, r) => (false, List.replicate n u ++ l) :: r
  | none => (false, List.replicate n u) :: p
def Zcb (p : List Seg) (u : UInt32) (n : Int) : List Seg × Int :=
  if Zo p = false ∨ u = 0 ∨ n < 0 then ([], 2) else if n > 64 - (cnt p : Int) then ([], 3) else (Zbm p u n.toNat, 0)
def Zjm (H : Heap) (r : List Seg × Int) (v : Value) (H' : Heap) : Prop := Keep Nil H H' ∧ ∃ Zn va, NewZ H H' Zn [Zl, Zh] ∧ v = .tuple ⟨[va, .int .i64 r.2]⟩ ∧ Zb Zn H' Zbz r.1 va
theorem Zjm.shut {H H' H'' : Heap} {r : List Seg × Int} {v : Value} (h : Zjm H r v H') (hs : Shut H H' H'') : Zjm H r v H'' := by obtain ⟨h1, Zn, va, h2, h3, h4⟩ := h; exact ⟨Zdx h1 hs, Zn, va, h2.shut hs, h3, Zbbg h2 h4 hs⟩
theorem Zcel {H : Heap} (hy : Lyd H) {Z : Nat -> Prop} {p : List Seg} {v : Value} (hz : ∀ x, Z x -> H x ≠ none) (hp : Zb Z H Zbz p v) (hl : p.length <= 1000000000) (hc : cnt p <= 1000000000) : FnW Tryd.prog Zna ⟨[v]⟩ H fun v H' => Keep Nil H H' ∧ v = .int .i64 (cnt p : Nat) :=
  Zxk Zbvs hy hz hp fun K hk => Zbmx p _ (by omega) (by omega) hk
theorem Zbmg {Z : Nat -> Prop} {H : Heap} {p : List Seg} {xs : List Value} {b : Bool} {l : List UInt32} {v : Value} (h : OkS Z H p xs) (hv : Zb Z H kU32 l v) : OkS Z H ((b, l) :: p) (.bool b :: v :: xs) := by
  intro i r hr; cases i with
  | zero =>
    obtain rfl : ((b, l) : Seg) = r := Option.some.inj hr; simp only [Zc, and_true]; exact ⟨⟨.bool b, rfl, by simp only [Zb]; rfl⟩, v, rfl, hv⟩
  | succ i =>
    have hr : (p : List (Tp Zbl))[i]? = some r := by simpa using hr
    refine Zc.congr (fun j hj => ?_) (h i r hr); show (Value.bool b :: v :: xs)[(i + 1) * 2 + j]? = xs[i * 2 + j]?
    rw [show (i + 1) * 2 + j = i * 2 + j + 1 + 1 by omega]
    rfl
theorem Zbma {Z : Nat -> Prop} {H : Heap} {s : Seg} {p : List Seg} {x y : Value} {xs : List Value} (h : OkS Z H (s :: p) (x :: y :: xs)) : OkS Z H p xs := by
  intro i r hr; have := h (i + 1) r (by simpa using hr)
  refine Zc.congr (fun j hj => ?_) this; show xs[i * 2 + j]? = (x :: y :: xs)[(i + 1) * 2 + j]?
  rw [show (i + 1) * 2 + j = i * 2 + j + 1 + 1 by omega]
  rfl
theorem Zbwq {xs : List Value} {k : Nat} (h : xs.length = (k + 1) * 2) : ∃ x y r, xs = x :: y :: r ∧ r.length = k * 2 := by
  match xs, h with
  | [], h => simp at h
  | [x], h => simp at h; omega
  | x :: y :: r, h => exact ⟨x, y, r, rfl, by simp at h; omega⟩
theorem Zbvd {Z : Nat -> Prop} {H : Heap} : ∀ {p : List Seg} {xs : List Value}, xs.length = p.length * 2 -> OkS Z H p xs -> ∀ v ∈ xs, Zby v = true
  | [], xs, hl, _, v, hv => by
    have : xs = [] := List.eq_nil_of_length_eq_zero (by simpa using hl)
    subst this; simp at hv
  | s :: p, xs, hl, h, v, hv => by
    obtain ⟨x, y, r, rfl, hr⟩ := Zbwq (k := p.length) (by simpa using hl)
    have h0 := h 0 s rfl; simp only [Zc, and_true] at h0; obtain ⟨⟨w, e1, e2⟩, u, e3, e4⟩ := h0; have e1 : x = w := by simpa using e1
    have e3 : y = u := by simpa using e3
    subst e1 e3; simp only [Zb] at e2 e4; obtain ⟨a, n, c, rfl, _⟩ := e4; rcases List.mem_cons.1 hv with rfl | hv; rw [e2]; rfl; rcases List.mem_cons.1 hv with rfl | hv; rfl; exact Zbvd hr (Zbma h) v hv
section
variable {H0 H5 : Heap} {p : List Seg} {u : UInt32} {k lb : Nat} {a : Option Addr} {c : Nat} {Zs : Nat -> Prop} {xs : List Value} {R : Value -> Heap -> Prop}
theorem Zbrm (hh : Zei p = none) (h0 : k ≠ 0) (hk : k <= 1000) (hpl : p.length <= 64) (own5 : Sh.Own H0 H5 (some ⟨lb, 0, none⟩) k k 1 Zl (v32 (List.replicate k u))) (sr : SR H0 H5 Zs a c p xs) (done : ∀ v H', Zjm H0 (Zbm p u k, 0) v H' -> R v H') :
    Znj a p.length c (some ⟨lb, 0, none⟩) k k false H5 R := by
  have he : Zbm p u k = (false, List.replicate k u) :: p := by unfold Zbm; rw [if_neg h0, hh]
  unfold Znj; refine ifF rfl (newB fun vb H6 f6 k6 b6 => ?_); have sr6 := sr.kept k6; refine (Zcue (i := 0) sr6.own sr6.keep sr6.cap (by omega) (Nat.zero_le _) b6 rfl (by simp [Zby]) (Zbvd sr6.own.len sr6.ok) (fun e => ?_)).mono fun v H7 hv => ?_
  obtain ⟨q, hq⟩ := sr.own.live e; exact hq.some f6; obtain ⟨a', cap', rfl, hcap', own7, fr7, k7⟩ := hv; have own6 := Zfb own5 k6 fun _ h => h.elim; have lbne : ∀ x, a = some ⟨x, 0, none⟩ -> (some ⟨lb, 0, none⟩ : Option Addr) ≠ some ⟨x, 0, none⟩ := fun x hx e => by obtain ⟨q, h1⟩ := own6.live e; obtain ⟨q', h2⟩ := sr6.own.live hx; exact absurd (Zhd h1 h2) (by decide)
  have own67 := Zfb own6 k7 fun x hx => lbne x hx; have k07 : Keep Nil H0 H7 := Zkl sr6.keep k7 fun x hx => sr6.own.free hx; have zk : ∀ x, Zs x -> ¬ a = some ⟨x, 0, none⟩ := fun x hx e => sr6.notZ e hx; have n7 : NewZ H0 H7 (fun x => Zs x ∨ (some ⟨lb, 0, none⟩ : Option Addr) = some ⟨x, 0, none⟩) [Zl] := (sr6.new.keep k7 zk).both (NewZ.own own67); have n8 : NewZ H0 H7 (fun x => (Zs x ∨ (some ⟨lb, 0, none⟩ : Option Addr) = some ⟨x, 0, none⟩) ∨ a' = some ⟨x, 0, none⟩) [Zl, Zh] := (n7.mono (by simp)).both ((NewZ.own own7).mono (by simp))
  refine ⟨_, _, _, rfl, done _ _ ⟨k07, _, _, n8, rfl, ?_⟩⟩; rw [he]; simp only [Nat.mul_zero, List.take_zero, List.drop_zero, List.nil_append] at own7; have ok7 : OkS (fun x => (Zs x ∨ (some ⟨lb, 0, none⟩ : Option Addr) = some ⟨x, 0, none⟩) ∨ a' = some ⟨x, 0, none⟩) H7 p xs := sr6.ok.ext fun x hx => ⟨.inl (.inl hx), k7.same x (zk x hx) (sr6.new.live x hx)⟩; have hl32 : Zb (fun x => (Zs x ∨ (some ⟨lb, 0, none⟩ : Option Addr) = some ⟨x, 0, none⟩) ∨ a' = some ⟨x, 0, none⟩) H7 kU32 (List.replicate k u) (.slice (some ⟨lb, 0, none⟩) k k) :=
    Zkd (ks := [.int .u32]) (l := List.replicate k u) own67 List.length_replicate Zzq (by unfold Zi; omega) fun x hx => .inl (.inr hx)
  exact Zkd (ks := Zbl) (l := ((false, List.replicate k u) :: p : List Seg)) own7 rfl (Zbmg ok7 hl32) hcap' fun x hx => .inr hx
theorem Zclu {l : List UInt32} {r : List Seg} (h0 : k ≠ 0) (hk : k <= 1000) (hll : l.length <= 64) (own5 : Sh.Own H0 H5 (some ⟨lb, 0, none⟩) k k 1 Zl (v32 (List.replicate k u))) (sr : SR H0 H5 Zs a c ((false, l) :: r) xs) (lbZ : ¬ Zs lb) (done : ∀ v H', Zjm H0 (Zbm ((false, l) :: r) u k, 0) v H' -> R v H') :
    a ≠ none ∧ ∀ q, a = some q -> ∃ y : Bool, y = false ∧ elemAt q 0 2 (fun x46p => H5.cell x46p = some (.bool false)) ∧ Znj a (((false, l) :: r : List Seg).length) c (some ⟨lb, 0, none⟩) k k true H5 R := by
  obtain ⟨b, o, sa, sn, sc, ha, hzb, hbl, q1, q2, q3⟩ := Zns sr.frz.2 (i := 0) (x := (false, l)) rfl; subst ha; refine ⟨by simp, fun q hq => ⟨false, rfl, ?_⟩⟩
  simp only [Option.some.injEq] at hq; subst hq; refine ⟨by rw [Zdo]; exact q1, ?_⟩
  unfold Znj; refine ifT rfl (NilP.intro _ rfl ⟨by omega, by simp <;> omega, ?_⟩)
  show elemAt _ 0 2 _; rw [Zdo]; obtain ⟨rfl, r2, r3, r4⟩ := rd32 (l := l) q3; refine ⟨_, _, _, q2, ?_⟩; obtain ⟨it, i1, i2, i3⟩ := Zsy; refine Zlh (e := Zl) (xe := Zl) (z := [.int .u32 0]) (by kernel_rfl) (by kernel_rfl) i1 i2 i3 (by decide) (by kernel_rfl) rfl own5 sr.keep (new := v32 l) r4 (Zyk l) (by omega) fun la' lc' H8 w0 w1 w2 w3 w4 => ?_
  have lbne : ∀ x, (some ⟨lb, 0, none⟩ : Option Addr) = some ⟨x, 0, none⟩ -> (some ⟨b, o, none⟩ : Option Addr) ≠ some ⟨x, 0, none⟩ := fun x hx e => by obtain ⟨q, h1⟩ := own5.live hx; obtain ⟨q', h2⟩ := sr.own.live e; exact absurd (Zhd h1 h2) (by decide)
  have lbz : ∀ x, (some ⟨lb, 0, none⟩ : Option Addr) = some ⟨x, 0, none⟩ -> ¬ Zs x := fun x hx hz => by simp only [Option.some.injEq, Addr.mk.injEq, and_true] at hx; subst hx; exact lbZ hz
  have sr8 := sr.step w3 (fun x hx => own5.free hx) fun x hx => ⟨lbz x hx, lbne x hx⟩; refine ⟨_, _, _, rfl, NilP.intro _ rfl ⟨by omega, by simp <;> omega, ?_⟩⟩
  show elemAt _ 0 2 _; rw [Zdo]; obtain ⟨x0, y0, xr, rfl, hxr⟩ := Zbwq (k := r.length) (by simpa using sr8.own.len)
  obtain ⟨mb, hmb⟩ := sr8.own.addr (by simp)
  simp only [Option.some.injEq, Addr.mk.injEq, and_true] at hmb; obtain ⟨rfl, rfl⟩ := hmb; obtain ⟨rest, hb8, hrest⟩ := sr8.own.blk rfl; have h0x := sr8.ok 0 ((false, l) : Seg) rfl; simp only [Zc, and_true] at h0x; obtain ⟨⟨w, e1, e2⟩, _⟩ := h0x; have e1 : x0 = w := by simpa using e1
  have e2 : w = .bool false := by simp only [Zb] at e2; exact e2
  subst e1 e2; refine Zt.blk hb8 (by simp) rfl ?_
  have eset : (⟨Value.bool false :: y0 :: xr ++ rest⟩ : Array Value).setIfInBounds (0 + 0 * 2 + 1) (.slice la' (k + l.length) lc') = ⟨(Value.bool false :: .slice la' (k + l.length) lc' :: xr) ++ rest⟩ := by apply Array.ext'; simp
  rw [eset]; have hb9 : Blk (H8.upd b (.cells ⟨(Value.bool false :: .slice la' (k + l.length) lc' :: xr) ++ rest⟩ Zh (0, 0))) b Zh ⟨(Value.bool false :: .slice la' (k + l.length) lc' :: xr) ++ rest⟩ := Blk.upd_eq; have ho9 : ∀ y, y ≠ b -> (H8.upd b (.cells ⟨(Value.bool false :: .slice la' (k + l.length) lc' :: xr) ++ rest⟩ Zh (0, 0))) y = H8 y := fun y hy => Sh.upd_ne hy; generalize H8.upd b (.cells ⟨(Value.bool false :: .slice la' (k + l.length) lc' :: xr) ++ rest⟩ Zh (0, 0)) = H9 at hb9 ho9; have k9 := Zgd hb9 ho9; have k09 : Keep Nil H0 H9 := Zkl sr8.keep k9 fun x hx => by subst hx; exact sr8.own.free rfl
  have nb : ∀ x, x = b -> la' ≠ some ⟨x, 0, none⟩ := fun x hx e => by subst hx; obtain ⟨q, h1⟩ := w1.live e; exact absurd (Zhd h1 hb8) (by decide)
  have own9 := Zfb w1 k9 nb; have zk : ∀ x, Zs x -> ¬ x = b := fun x hx e => by subst e; exact sr8.notZ rfl hx
  have oo : Sh.Own H0 H9 (some ⟨b, 0, none⟩) (((false, l) :: r : List Seg).length) c 2 Zh (.bool false :: .slice la' (k + l.length) lc' :: xr) := ⟨by simp; omega, sr8.own.le, .inr ⟨b, rest, rfl, sr8.own.free rfl, hb9, hrest⟩⟩
  have n9 : NewZ H0 H9 (fun x => (Zs x ∨ la' = some ⟨x, 0, none⟩) ∨ (some ⟨b, 0, none⟩ : Option Addr) = some ⟨x, 0, none⟩) [Zl, Zh] := (((sr8.new.keep k9 zk).both (NewZ.own own9)).mono (by simp)).both ((NewZ.own oo).mono (by simp))
  have he : Zbm ((false, l) :: r) u k = (false, List.replicate k u ++ l) :: r := by unfold Zbm; rw [if_neg h0]; rfl
  refine done _ _ ⟨k09, _, _, n9, rfl, ?_⟩; rw [he]; have hl9 : Zb (fun x => (Zs x ∨ la' = some ⟨x, 0, none⟩) ∨ (some ⟨b, 0, none⟩ : Option Addr) = some ⟨x, 0, none⟩) H9 kU32 (List.replicate k u ++ l) (.slice la' (k + l.length) lc') := by have e : v32 (List.replicate k u) ++ v32 l = v32 (List.replicate k u ++ l) := List.map_append.symm; rw [e] at own9; exact Zkd (ks := [.int .u32]) (l := List.replicate k u ++ l) own9 (by show (List.replicate k u ++ l).length = _; simp) Zzq (w0 (by omega)) fun x hx => .inl (.inr hx)
  have ok9 : OkS (fun x => (Zs x ∨ la' = some ⟨x, 0, none⟩) ∨ (some ⟨b, 0, none⟩ : Option Addr) = some ⟨x, 0, none⟩) H9 r xr := (Zbma sr8.ok).ext fun x hx => ⟨.inl (.inl hx), ho9 x (zk x hx)⟩; exact Zkd (ks := Zbl) (l := ((false, List.replicate k u ++ l) :: r : List Seg)) oo rfl (Zbmg ok9 hl9) sr8.cap fun x hx => .inr hx
end
theorem Zccc {H0 : Heap} {Z : Nat -> Prop} {p : List Seg} {v : Value} {u : UInt32} {n : Int} (hy : Lyd H0) (hz : ∀ x, Z x -> H0 x ≠ none) (hp : Zb Z H0 Zbz p v) (hl : p.length <= 10000) (hc : cnt p <= 1000000) (hn : InR .i64 n) :
    FnW Tryd.prog Zjw ⟨[v, .int .u32 (u.toNat : Int), .int .i64 n]⟩ H0 (Zjm H0 (Zcb p u n)) := by
  obtain ⟨pa, pn, pc, rfl⟩ := Zhq hp; have hsl : ∀ s ∈ p, s.2.length <= 1000000 := fun s hs => by have := Zew hs; omega
  refine Zcjz pa pn pc _ _ ?_; generalize hR : (fun v H' => ∀ H'', Shut H0 H' H'' -> Zjm H0 (Zcb p u n) v H'') = R; have done : ∀ v H', Zjm H0 (Zcb p u n) v H' -> R v H' := fun v H' hm => by rw [← hR]; exact fun H2 hs => hm.shut hs
  unfold Zbje; refine (Zbsy hy hz hp (by omega) (by omega)).mono fun v H1 hv => ?_
  obtain ⟨k1, rfl⟩ := hv; refine ⟨_, rfl, ?_⟩; cases hok : Zo p with
  | false =>
    refine ifT rfl (done _ _ ⟨k1, fun _ => False, .slice none 0 0, NewZ.none, ?_, ?_⟩); unfold Zcb; rw [if_pos (.inl hok)]; rfl
    . unfold Zcb; rw [if_pos (.inl hok)]; exact Zrg
  | true =>
  refine ifF rfl ?_; have hcp : cnt p <= 64 := by simp only [Zo, Bool.and_eq_true, decide_eq_true_eq] at hok; exact hok.2
  have hpl : p.length <= 64 := by
    have h1 : p.all Zbu = true := by simp only [Zo, Bool.and_eq_true] at hok; exact hok.1
    have := Zvd p h1; omega
  have bad : (u = 0 ∨ n < 0) -> Zqr pa pn pc (u.toNat : Int) n true H1 R := fun h => by unfold Zqr; refine ifT rfl (done _ _ ⟨k1, fun _ => False, .slice none 0 0, NewZ.none, ?_, ?_⟩); unfold Zcb; rw [if_pos (.inr h)]; unfold Zcb; rw [if_pos (.inr h)]; exact Zrg
  refine IfB.intro (fun h => bad (.inl ?_)) fun h => ?_
  . have h : (u.toNat : Int) = 0 := by simpa using h
    exact UInt32.toNat_inj.1 (by rw [show (0 : UInt32).toNat = 0 from rfl]; omega)
  have hu0 : u ≠ 0 := fun e => by subst e; simp at h
  by_cases hn0 : n < 0; rw [decide_eq_true hn0]; exact bad (.inr hn0); rw [decide_eq_false hn0]; unfold Zqr; refine ifF rfl ?_; have hp1 : Zb Z H1 Zbz p (.slice pa pn pc) := Zb.ext (fun x hx => ⟨hx, k1.same x (fun h => h) (hz x hx)⟩) _ _ _ hp; have hz1 : ∀ x, Z x -> H1 x ≠ none := fun x hx => k1.live x (hz x hx); refine (Zcel (hy.keep k1) hz1 hp1 (by omega) (by omega)).mono fun v H2 hv => ?_
  obtain ⟨k2, rfl⟩ := hv; refine ⟨_, rfl, ?_⟩; rw [Zg (n := 64 - (cnt p : Int)) (by omega) (by omega)]
  have hspec : Zcb p u n = if n > 64 - (cnt p : Int) then ([], 3) else (Zbm p u n.toNat, 0) := by unfold Zcb; rw [if_neg]; rintro (h | h | h); rw [hok] at h; cases h; exact hu0 h; exact hn0 h
  have k02 := k1.trans k2; by_cases hbig : n > 64 - (cnt p : Int); rw [if_pos hbig] at hspec; refine ifT (decide_eq_true hbig) (done _ _ ⟨k02, fun _ => False, .slice none 0 0, NewZ.none, ?_, ?_⟩); rw [hspec]; rw [hspec]; exact Zrg; rw [if_neg hbig] at hspec; obtain ⟨k, rfl⟩ : ∃ k : Nat, n = k := ⟨n.toNat, by omega⟩
  rw [Int.toNat_natCast] at hspec; rw [hspec] at done; clear hR bad hspec; refine ifF (decide_eq_false hbig) ?_; have hp2 : Zb Z H2 Zbz p (.slice pa pn pc) := Zb.ext (fun x hx => ⟨hx, k2.same x (fun h => h) (hz1 x hx)⟩) _ _ _ hp1; refine (Zcnu (fun x hx => k2.live x (hz1 x hx)) hp2 (by omega) (fun s hs => by have := Zew hs; omega)).mono fun v H3 hv => ?_
  obtain ⟨F, a, m, c, rfl, ps⟩ := hv; have hm := ps.len; have ps := ps.mono k02 (k02.trans ps.keep); refine ⟨_, _, _, rfl, ?_⟩; refine IfB.intro (fun h0 => ?_) fun h0 => ?_
  . have h0 : k = 0 := by simpa using h0
    subst h0; obtain ⟨z1, z2⟩ := ps.frz; refine done _ _ ⟨ps.keep, F, _, z1, rfl, ?_⟩; unfold Zbm; rw [if_pos rfl]; exact z2
  have h0 : k ≠ 0 := by simpa using h0
  refine newB fun xb H4 f4 k4 b4 => ?_; have ps4 := ps.kept k4; refine (Zcmu (n := k) (by omega) (by omega) b4).mono fun v H5 hv => ?_
  obtain ⟨k5, lb, rfl, own5⟩ := hv; have ps5 := ps4.kept k5; have k45 := k4.trans k5; have own5 : Sh.Own H0 H5 (some ⟨lb, 0, none⟩) k k 1 Zl (v32 (List.replicate k u)) := own5.mono ps4.keep; have lbF : ¬ F lb := fun hf => by
    have h1 := ps4.live hf; have := (show Sh.Own H4 H5 (some ⟨lb, 0, none⟩) k k 1 Zl (v32 (List.replicate k u)) from by assumption)
    exact h1 (this.free rfl)
  obtain ⟨_, Zs, xs, sr, hF⟩ := ps5.toSR; refine ⟨_, _, _, rfl, ?_⟩; rw [hm]; rcases p with _ | ⟨⟨b0, l⟩, r⟩; exact ifF rfl (Zbrm rfl h0 (by omega) (by simp) own5 sr done)
  . obtain ⟨b, o, sa, sn, sc, ha, hzb, hbl, q1, q2, q3⟩ := Zns sr.frz.2 (i := 0) (x := (b0, l)) rfl; refine ifT (by simp <;> omega) (NilP.intro _ ha ⟨by omega, by simp <;> omega, ?_⟩)
    show elemAt _ 0 2 _; rw [Zdo]; refine ⟨_, q1, ?_⟩; cases b0
    . have hll : l.length <= 64 := by
        have : cnt ((false, l) :: r) = l.length + cnt r := by simp [cnt]
        omega
      exact ((Zclu h0 (by omega) hll own5 sr (fun hz => lbF ((hF _).2 (.inr hz))) done).2 _ ha).choose_spec.2.2
    exact Zbrm rfl h0 (by omega) hpl own5 sr done
end Go.Proofs.YtflfamhboalgiaaDoor
end
section
set_option maxRecDepth 100000
namespace Go.Proofs.YtflfamhboalgiaaDoor
open Go.Sh
theorem Zcgh (p : List Seg) (K : Int -> Prop) (hl : p.length + cnt p <= 1000000000) (h : K (lenP p)) : Zbbx p K := by
  unfold Zbbx; refine Zj.over p (fun pre => ((lenP pre : Int), (pre.length : Int), ())) (fun _ => True) rfl trivial (fun pre s post hp hn _ next hx => ?_) (fun _ next _ => ?_)
  . intro _; dsimp only [Zben, Zbim]; have e := Zkg pre (s :: post); rw [← hp] at e; have e2 : lenP (pre ++ [s]) = lenP pre + (if s.1 then 1 else s.2.length) := by rw [Zkg]; simp [lenP]
    have e3 : lenP (s :: post) = (if s.1 then 1 else s.2.length) + lenP post := by simp [lenP]
    have hle := Zjn p; refine ifT (decide_eq_true (by omega)) ⟨by omega, AtN.of (Zbf hp) fun _ => IfB.intro (fun h1 => of_eq (hx trivial) ?_) (fun h1 => ⟨by omega, AtN.of (Zbf hp) fun _ => of_eq (hx trivial) ?_⟩)⟩
    . rw [h1, if_pos rfl] at e2 e3; rw [Zg (by omega) (by omega), Zg (by omega) (by omega), e2]
      simp
    . rw [h1, if_neg (by decide)] at e2 e3
      rw [Zg (by omega) (by omega), Zg (by omega) (by omega), e2]
      simp
  dsimp only [Zben]; exact ifF (decide_eq_false (by omega)) h
theorem Zbrt {H : Heap} (hy : Lyd H) {Z : Nat -> Prop} {p : List Seg} {v : Value} (hz : ∀ x, Z x -> H x ≠ none) (hp : Zb Z H Zbz p v) (hl : p.length + cnt p <= 1000000000) : FnW Tryd.prog Zsd ⟨[v]⟩ H fun v H' => Keep Nil H H' ∧ v = .int .i64 (lenP p : Nat) :=
  Zxk Zclo hy hz hp fun K hk => Zcgh p _ hl hk
theorem Zbso {Z : Nat -> Prop} {H : Heap} {ks : List Kd} {xs : List (Tp ks)} {a : Option Addr} {n c k : Nat} (h : Zb Z H (.lst ks) xs (.slice a n c)) (hk : k <= n) :
    Zb Z H (.lst ks) (xs.drop k) (.slice (if c = k then a else Option.map (fun q => Addr.add q (k * ks.length)) a) (n - k) (c - k)) := by
  simp only [Zb] at h ⊢; obtain ⟨a', n', c', e, h1, h2, h3, h4⟩ := h; cases e; have h1 : xs.length = n := h1; refine ⟨_, _, _, rfl, ?_, by omega, by omega, fun h0 => ?_⟩
  show (xs.drop k).length = _; rw [List.length_drop]; omega; obtain ⟨b, o, rfl, hz, cs, T, fr, hb, hc⟩ := h4 (by omega)
  rw [if_neg (by omega)]
  refine ⟨b, o + k * ks.length, by rw [Option.map_some, Zcr rfl], hz, cs, T, fr, hb, fun j x hj => ?_⟩
  have hj : (xs.drop k)[j]? = some x := hj; rw [List.getElem?_drop] at hj; refine Zc.congr (fun i hi => ?_) (hc (k + j) x hj); congr 1; rw [Nat.add_mul]; omega
theorem Zcax {Z : Nat -> Prop} {H : Heap} {ks : List Kd} {xs : List (Tp ks)} {a : Option Addr} {n c k : Nat} (h : Zb Z H (.lst ks) xs (.slice a n c)) (hk : k <= n) : Zb Z H (.lst ks) (xs.take k) (.slice a k c) := by
  simp only [Zb] at h ⊢; obtain ⟨a', n', c', e, h1, h2, h3, h4⟩ := h; cases e; have h1 : xs.length = n := h1; refine ⟨_, _, _, rfl, ?_, by omega, by omega, fun h0 => ?_⟩
  show (xs.take k).length = _; rw [List.length_take]; omega; obtain ⟨b, o, rfl, hz, cs, T, fr, hb, hc⟩ := h4 (by omega)
  refine ⟨b, o, rfl, hz, cs, T, fr, hb, fun j x hj => ?_⟩; have hj : (xs.take k)[j]? = some x := hj; rw [List.getElem?_take] at hj; split at hj; exact hc j x hj; cases hj
section
variable {H0 H : Heap} {F : Nat -> Prop} {a : Option Addr} {n c : Nat}
theorem PSt.single {b : Bool} {l : List UInt32} (h : PSt H0 H F a n c [(b, l)]) : ∃ m la lc, a = some ⟨m, 0, none⟩ ∧ n = 1 ∧ H m ≠ none ∧ H.cell ⟨m, 0, none⟩ = some (.bool b) ∧ H.cell ⟨m, 1, none⟩ = some (.slice la l.length lc) ∧ Sh.Own H0 H la l.length lc 1 Zl (v32 l) ∧ lc <= Zi := by
  rcases h with ⟨h, _⟩ | ⟨Z, init, b', l', xs, la, lc, hp, rfl, h, hF⟩; cases h
  . rcases init with _ | ⟨y, init⟩
    . simp only [List.nil_append, List.cons.injEq, Prod.mk.injEq, and_true] at hp; obtain ⟨rfl, rfl⟩ := hp; obtain ⟨m, hm⟩ := h.own.addr (by omega)
      obtain ⟨rest, hb, hr⟩ := h.own.blk hm; have hx : xs = [] := List.eq_nil_of_length_eq_zero (by simpa using h.xl)
      subst hx; exact ⟨m, la, lc, hm, rfl, hb.some, Zbx hb 0 rfl, Zbx hb 1 rfl, h.last, h.lcap⟩
    have := congrArg List.length hp; simp at this
def Zic (H : Heap) (p : List Seg) (v : Value) (H' : Heap) : Prop := Keep Nil H H' ∧ ∃ Zn, NewZ H H' Zn [Zl, Zh] ∧ Zb Zn H' Zbz p v
theorem Zic.shut {H H' H'' : Heap} {p : List Seg} {v : Value} (h : Zic H p v H') (hs : Shut H H' H'') : Zic H p v H'' := by obtain ⟨h1, Zn, h2, h4⟩ := h; exact ⟨Zdx h1 hs, Zn, h2.shut hs, Zbbg h2 h4 hs⟩
theorem PSt.join {p q : List Seg} (h : PSt H0 H F a n c p) {Zm : Nat -> Prop} {ma : Option Addr} {mn mc : Nat} {K : Value -> Heap -> Prop} (hq : Zb Zm H Zbz q (.slice ma mn mc)) (hn : NewZ H0 H Zm [Zl, Zh]) (hd : ∀ x, Zm x -> ¬ F x) (hl : p.length + q.length <= 100000)
    (hk : ∀ v H', Zic H0 (p ++ q) v H' -> ∃ a n c, v = .slice a n c ∧ K v H') :
    AppW Tryd.prog #[Zq, Zq] Zq [.slice a n c, .slice ma mn mc] H fun v H' => K v H' := by
  obtain ⟨rfl, Z, xs, sr, hF⟩ := h.toSR; obtain ⟨a', n', c', new, e, h1, h2, h3, h4, h5, h6⟩ := Zmh (g := gZ Zm) (ks := Zbl) (xs := q) hq; cases e; have h1 : q.length = mn := h1; obtain ⟨it, i1, i2, i3⟩ := Zbij; refine Zlh (e := Zh) (xe := Zh) (z := [.bool false, .slice none 0 0]) (by kernel_rfl) (by kernel_rfl) i1 i2 i3 (by decide) (by kernel_rfl) rfl sr.own sr.keep (new := new) h4 h6 (by omega) fun a' c' H' q0 q1 q2 q3 q4 => ?_
  have zk : ∀ x, (Z x ∨ Zm x) -> ¬ a = some ⟨x, 0, none⟩ := fun x hx e => by rcases hx with hx | hx; exact sr.notZ e hx; exact hd x hx ((hF x).2 (.inl e))
  have n1 : NewZ H0 H' (fun x => (Z x ∨ Zm x) ∨ a' = some ⟨x, 0, none⟩) [Zl, Zh] := (((sr.new.mono (by simp)).both hn).keep q3 zk).both ((NewZ.own q1).mono (by simp))
  have live : ∀ x, (Z x ∨ Zm x) -> H x ≠ none := fun x hx => hx.elim (sr.new.live x) (hn.live x); have hfin : Zb (fun x => (Z x ∨ Zm x) ∨ a' = some ⟨x, 0, none⟩) H' Zbz (p ++ q) (.slice a' (p.length + mn) c') := ?_; obtain ⟨_, _, _, _, hk⟩ := hk (.slice a' (p.length + mn) c') H' ⟨q4, _, n1, hfin⟩; exact hk; refine Zkd (ks := Zbl) (l := (p ++ q : List Seg)) q1 (by show (p ++ q).length = _; rw [List.length_append]; omega) ?_ (q0 sr.cap) fun x hx => .inr hx
  intro i r hr; have hxl : xs.length = p.length * 2 := sr.own.len; rcases Nat.lt_or_ge i p.length with hi | hi
  . have hr : (p : List (Tp Zbl))[i]? = some r := by have hr : (p ++ q)[i]? = some r := hr; rw [List.getElem?_append_left hi] at hr; exact hr
    refine Zc.congr (fun j hj => ?_) (Zc.ext (fun x hx => ⟨.inl (.inl hx), q3.same x (zk x (.inl hx)) (live x (.inl hx))⟩) _ _ _ (sr.ok i r hr)); have hj : j < 2 := hj; show (xs ++ new)[i * 2 + j]? = xs[i * 2 + j]?
    rw [List.getElem?_append_left (by omega)]
  . have hr : (q : List (Tp Zbl))[i - p.length]? = some r := by have hr : (p ++ q)[i]? = some r := hr; rw [List.getElem?_append_right hi] at hr; exact hr
    refine Zc.congr (fun j hj => ?_) (Zc.ext (fun x hx => ⟨.inl (.inr hx), q3.same x (zk x (.inr hx)) (live x (.inr hx))⟩) _ _ _ (h5 (i - p.length) r hr)); show (xs ++ new)[i * 2 + j]? = new[(i - p.length) * 2 + j]?
    rw [List.getElem?_append_right (by omega), hxl, Nat.sub_mul]
    congr 1; omega
end
theorem Zbya (p : List Seg) : Zbh p 0 = [] := by cases p <;> rfl
theorem Zbqf (n : Nat) : Zbh [] n = [] := by cases n <;> rfl
theorem Zbjv {s : Seg} (h : s.1 = true) (p : List Seg) (n : Nat) : Zbh (s :: p) (n + 1) = s :: Zbh p n := by simp only [Zbh, h, if_true]
theorem Zbph {s : Seg} (h : s.1 = false) (p : List Seg) (n : Nat) : Zbh (s :: p) (n + 1) = (s.1, s.2.take (n + 1)) :: Zbh p (n + 1 - min (n + 1) s.2.length) := by simp only [Zbh, h]; rfl
theorem Zbsf (p q : List Seg) : cnt (p ++ q) = cnt p + cnt q := by simp [cnt]
theorem Zboy (l : List UInt32) (n : Nat) : l.take (min n l.length) = l.take n := by rcases Nat.le_total n l.length with h | h; rw [Nat.min_eq_left h]; rw [Nat.min_eq_right h, List.take_length, List.take_of_length_le h]
section
variable {H0 H : Heap} {F : Nat -> Prop} {a : Option Addr} {n c : Nat}
theorem m_j3 {out q : List Seg} (h : PSt H0 H F a n c out) {next : (Int × (Option Addr × Nat × Nat) × Int × Unit) -> Heap -> Prop} {R : Value -> Heap -> Prop} {Zm : Nat -> Prop} {ma : Option Addr} {mn mc : Nat} (hq : Zb Zm H Zbz q (.slice ma mn mc)) (hn : NewZ H0 H Zm [Zl, Zh]) (hd : ∀ x, Zm x -> ¬ F x) (hl : out.length + q.length <= 100000)
    (done : ∀ v H', Zic H0 (out ++ q) v H' -> R v H') : Zwe a n c next ma mn mc H R := by
  unfold Zwe; refine h.join (K := fun v H' => ∃ a n c, v = .slice a n c ∧ R (.slice a n c) H') hq hn hd hl fun v H' hm => ?_; have hm' := hm; obtain ⟨_, _, _, hc⟩ := hm; obtain ⟨a', n', c', rfl⟩ := Zhq hc; exact ⟨a', n', c', rfl, a', n', c', rfl, done _ _ hm'⟩
theorem Zcpt {out four : List Seg} (h : PSt H0 H F a n c out) {next : (Int × (Option Addr × Nat × Nat) × Int × Unit) -> Heap -> Prop} {R : Value -> Heap -> Prop} {Zm : Nat -> Prop} {ma : Option Addr} {mn mc : Nat} (hq : Zb Zm H Zbz four (.slice ma mn mc)) (hn : NewZ H0 H Zm [Zl, Zh]) (hd : ∀ x, Zm x -> ¬ F x) (hl : out.length + four.length <= 50000) (hc : cnt out + cnt four <= 1000000)
    (done : ∀ v H', Zic H0 (Zcw out four) v H' -> R v H') :
    IfB (decide (((n : Int) : Int) > 0))
      (IfB (decide (((mn : Int) : Int) > 0))
        (NilP a fun x75q => InB (IntKind.wrap .i64 ((n : Int) - 1)) n fun x75i => elemAt x75q x75i 2 fun x75p => ∃ x77 : Bool, H.cell x75p = some (Value.bool x77) ∧
          IfB (!x77) (NilP ma fun x82q => InB 0 mn fun x82i => elemAt x82q x82i 2 fun x82p => ∃ x84 : Bool, H.cell x82p = some (Value.bool x84) ∧ Zgk a n c ma mn mc next (!x84) H R)
            (Zgk a n c ma mn mc next false H R))
        (Zgk a n c ma mn mc next false H R))
      (Zgk a n c ma mn mc next false H R) := by
  have hlen := h.len; have hmn : mn = four.length := (Zjh (ks := Zbl) hq).1; have plain : Zcw out four = out ++ four -> Zgk a n c ma mn mc next false H R := fun e => by unfold Zgk; rw [e] at done; exact ifF rfl (m_j3 h hq hn hd (by omega) done)
  by_cases ho : out = []; subst ho; have : n = 0 := hlen; subst this; exact ifF rfl (plain rfl); obtain ⟨m, init, b, l, la, lc, rfl, hm, rfl, hin, q1, q2, q3⟩ := h.lastN ho; rw [List.length_append, List.length_singleton] at hl; rw [Zds] at hc; simp only at hc; have hlast : (init ++ [(b, l)]).getLast? = some (b, l) := List.getLast?_concat; refine ifT (decide_eq_true (by omega)) ?_
  match four, hq, hmn, hl, hc, done, plain with
  | [], hq, hmn, hl, hc, done, plain =>
    have hmn : mn = 0 := hmn; subst hmn; exact ifF rfl (plain (by unfold Zcw; rw [hlast]))
  | t :: rest, hq, hmn, hl, hc, done, plain =>
    obtain ⟨b2, o2, sa, sn, sc, rfl, hzb, hbl, r1, r2, r3⟩ := Zns hq (i := 0) (x := t) rfl; simp only [List.length_cons] at hmn hl; have hct : cnt (t :: rest) = t.2.length + cnt rest := by simp [cnt]
    rw [hct] at hc; have hw : IntKind.wrap .i64 ((n : Int) - 1) = (init.length : Int) := by rw [hin, Zg (by omega) (by omega)]; omega
    rw [hw]; refine ifT (decide_eq_true (by omega)) (NilP.intro _ rfl (InB.intro init.length rfl (by omega) ?_))
    rw [Zdo]; simp only [Nat.zero_add]; refine ⟨b, q1, ?_⟩; cases b
    case true => exact ifF rfl (plain (by unfold Zcw; rw [hlast]; rfl))
    refine ifT rfl (NilP.intro _ rfl ⟨by omega, by omega, ?_⟩)
    show elemAt _ 0 2 _; rw [Zdo]; refine ⟨t.1, r1, ?_⟩; cases ht : t.1
    case true => exact plain (by unfold Zcw; rw [hlast]; simp only [ht]; rfl)
    have hg : Zcw (init ++ [(false, l)]) (t :: rest) = (init ++ [(false, l ++ t.2)]) ++ rest := by unfold Zcw; rw [hlast]; simp only [ht]; show (init ++ [(false, l)]).dropLast ++ (false, l ++ t.2) :: rest = _; rw [List.dropLast_concat]; simp
    rw [hg] at done; unfold Zgk; rw [hw]; obtain ⟨rfl, s2, s3, s4⟩ := rd32 r3; refine ifT rfl (NilP.intro _ rfl (InB.intro init.length rfl (by omega) ?_))
    rw [Zdo]; simp only [Nat.zero_add]; refine ⟨_, _, _, q2, NilP.intro _ rfl ⟨by omega, by omega, ?_⟩⟩
    show elemAt _ 0 2 _; rw [Zdo]; refine ⟨_, _, _, r2, q3 (Keep.refl _ _) rfl s4 (by omega) fun la' lc' H17 st k17 => ⟨_, _, _, rfl, NilP.intro _ rfl (InB.intro init.length rfl (by omega) ?_)⟩⟩
    rw [Zdo]; simp only [Nat.zero_add]; refine st _ fun H18 F' p18 fr k18 => ⟨by omega, by omega, ?_⟩
    have hd18 : ∀ x, Zm x -> H18 x = H x := fun x hx => k18.same x (hd x hx) (hn.live x hx); have hq18 : Zb Zm H18 Zbz (t :: rest) (.slice (some ⟨b2, o2, none⟩) mn mc) := Zb.ext (fun x hx => ⟨hx, hd18 x hx⟩) _ _ _ hq; have hdr := Zbso (ks := Zbl) (xs := (t :: rest : List Seg)) (k := 1) hq18 (by omega)
    refine m_j3 p18 (q := rest) hdr (hn.keep k18 hd) (fun x hx hf => ?_) (by rw [List.length_append, List.length_singleton]; omega) done
    rcases fr x hf with e | e; exact hd x hx e; exact hn.live x hx e
end
theorem Zctr {H0 : Heap} {Z : Nat -> Prop} {two four : List Seg} {v2 v4 : Value} (hy : Lyd H0) (hz : ∀ x, Z x -> H0 x ≠ none) (h2 : Zb Z H0 Zbz two v2) (h4 : Zb Z H0 Zbz four v4) (hl : two.length + cnt two <= 8000) (hl4 : four.length + cnt four <= 8000) :
    FnW Tryd.prog Znx ⟨[v2, v4]⟩ H0 (Zic H0 (Zfe two four)) := by
  obtain ⟨ta, tn, tc, rfl⟩ := Zhq h2; obtain ⟨fa, fn, fc, rfl⟩ := Zhq h4; have htn : tn = two.length := (Zjh (ks := Zbl) h2).1; have htc : tn <= tc ∧ tc <= Zi := (Zjh (ks := Zbl) h2).2; refine Zcot _ _ _ _ _ _ ?_; generalize hR : (fun v H' => ∀ H'', Shut H0 H' H'' -> Zic H0 (Zfe two four) v H'') = R; have done : ∀ v H', Zic H0 (Zfe two four) v H' -> R v H' := fun v H' hm => by rw [← hR]; exact fun H2 hs => hm.shut hs
  clear hR; have le2 := Zjn two; have le4 := Zjn four; have keepC : ∀ {p : List Seg} {v : Value} {H' : Heap}, Keep Nil H0 H' -> Zb Z H0 Zbz p v -> Zb Z H' Zbz p v := fun k h => Zb.ext (fun x hx => ⟨hx, k.same x (fun h => h) (hz x hx)⟩) _ _ _ h; have len2 : ∀ s ∈ two, s.2.length <= 100000 := fun s hs => by have := Zew hs; omega
  have len4 : ∀ s ∈ four, s.2.length <= 100000 := fun s hs => by have := Zew hs; omega
  unfold Zbix; refine (Zbrt hy hz h2 (by omega)).mono fun v H1 hv => ?_
  obtain ⟨k1, rfl⟩ := hv; refine ⟨_, rfl, (Zbrt (hy.keep k1) (fun x hx => k1.live x (hz x hx)) (keepC k1 h4) (by omega)).mono fun v H2 hv => ?_⟩
  obtain ⟨k2, rfl⟩ := hv; have k02 := k1.trans k2; refine ⟨_, rfl, ?_⟩; rw [Zg (n := (lenP two : Int) - (lenP four : Int)) (by omega) (by omega)]
  unfold Zfe at done; by_cases hlt : lenP two < lenP four
  . rw [if_pos hlt] at done; refine ifT (decide_eq_true (by omega)) ((Zbez (fun x hx => k02.live x (hz x hx)) (keepC k02 h2) (by omega) len2).mono fun v H3 hv => ?_)
    obtain ⟨F, a, n, c, rfl, ps⟩ := hv; have ps := ps.mono k02 (k02.trans ps.keep); obtain ⟨z1, z2⟩ := ps.frz; exact ⟨_, _, _, rfl, done _ _ ⟨ps.keep, F, z1, z2⟩⟩
  rw [if_neg hlt] at done; have hsub : (lenP two : Int) - (lenP four : Int) = ((lenP two - lenP four : Nat) : Int) := by omega
  rw [hsub]; obtain ⟨f1, f2⟩ := Zoo two (lenP two - lenP four); have hL : lenP two - lenP four <= 10000 := by omega
  generalize lenP two - lenP four = L at *; refine ifF (decide_eq_false (by omega)) (newB fun ob H4 f4 k4 b4 => ?_)
  have k04 := k02.trans k4; have ps0 := PSt.start (k02.free f4) b4 k04; refine ⟨fun k x H => ∃ (i left : Nat) (out : List Seg) (F : Nat -> Prop) (a : Option Addr) (n c : Nat), x = ((left : Int), ((a, n, c), ((i : Int), ()))) ∧ k = two.length - i ∧ i <= two.length ∧ left <= L ∧ out ++ Zbh (two.drop i) left = Zbh two L ∧ PSt H0 H F a n c out, two.length, ⟨0, L, [], _, _, 0, 0, rfl, rfl, Nat.zero_le _, Nat.le_refl _, rfl, ps0⟩, ?_⟩; rintro k x H ⟨i, left, out, F, a, n, c, rfl, rfl, hi, hleft, hout, ps⟩ g; have hol : out.length <= two.length := by have := congrArg List.length hout; rw [List.length_append] at this; omega
  have hoc : cnt out <= cnt two := by have := congrArg cnt hout; rw [Zbsf] at this; omega
  have kk := ps.keep; have hzH : ∀ x, Z x -> H x ≠ none := fun x hx => kk.live x (hz x hx)
  have fin : out = Zbh two L -> Zsc ta tn tc fa fn fc (left : Int) a n c (i : Int) (fun x' H' => ∃ k', k' < two.length - i ∧ ∃ (i left : Nat) (out : List Seg) (F : Nat -> Prop) (a : Option Addr) (n c : Nat), x' = ((left : Int), ((a, n, c), ((i : Int), ()))) ∧ k' = two.length - i ∧ i <= two.length ∧ left <= L ∧ out ++ Zbh (two.drop i) left = Zbh two L ∧ PSt H0 H' F a n c out) false H R := fun e => by
    unfold Zsc; refine ifF rfl ((Zbez hzH (keepC kk h4) (by omega) len4).mono fun v H5 hv => ?_)
    obtain ⟨Fm, ma, mn, mc, rfl, pm⟩ := hv; have pk := ps.kept pm.keep; have pm0 := pm.mono kk pk.keep; obtain ⟨z1, z2⟩ := pm0.frz; refine ⟨_, _, _, rfl, Zcpt pk z2 z1 (fun x hx hf => ?_) (by omega) (by omega) ?_⟩
    exact ps.live hf (pm.new hx).1; rw [e]; exact done
  show Zbgl ta tn tc fa fn fc (left : Int) a n c (i : Int) H _ R; unfold Zbgl; by_cases hin : i < two.length
  case neg =>
    refine ifF (decide_eq_false (by omega)) (fin ?_)
    rw [List.drop_eq_nil_of_le (by omega), Zbqf, List.append_nil] at hout
    exact hout
  refine ifT (decide_eq_true (by omega)) ?_
  by_cases hl0 : left = 0; subst hl0; rw [Zbya, List.append_nil] at hout; exact fin hout; clear fin; rw [decide_eq_true (show (left : Int) > 0 by omega)]
  obtain ⟨lf, rfl⟩ : ∃ lf, left = lf + 1 := ⟨left - 1, by omega⟩
  have hd : two.drop i = two[i] :: two.drop (i + 1) := List.drop_eq_getElem_cons hin; have hm := Zew (p := two) (s := two[i]) (List.getElem_mem hin); have hw1 : IntKind.wrap .i64 ((i : Int) + 1) = ((i + 1 : Nat) : Int) := by rw [Zg (by omega) (by omega)]; omega
  unfold Zsc; rw [hw1]; refine ifT rfl ⟨by omega, by omega, ?_⟩
  simp only [Int.toNat_natCast]; refine ⟨by omega, by omega, ?_⟩
  simp only [Int.toNat_natCast]; have one := Zbso (ks := Zbl) (k := i) (Zcax (ks := Zbl) (k := i + 1) (keepC kk h2) (by omega)) (by omega)
  have e1 : (two.take (i + 1)).drop i = [two[i]] := by
    have : two.take (i + 1) = two.take i ++ [two[i]] := by rw [List.take_add_one, List.getElem?_eq_getElem hin]; rfl
    rw [this]; exact List.drop_left' (by rw [List.length_take]; omega)
  have one : Zb Z H Zbz [two[i]] (.slice (if tc = i then ta else Option.map (fun q => Addr.add q (i * 2)) ta) (i + 1 - i) (tc - i)) := Eq.mp (congrArg (fun z : List Seg => Zb Z H Zbz z (.slice (if tc = i then ta else Option.map (fun q => Addr.add q (i * 2)) ta) (i + 1 - i) (tc - i))) e1) one
  clear e1; generalize hs : two[i] = s at *; obtain ⟨sb, sl⟩ := s; simp only at hm
  refine (Zbez (p := [(sb, sl)]) hzH one (by show 1 <= 10000; omega) (fun s hs => by
    have hs : s = (sb, sl) := List.mem_singleton.1 hs; rw [hs]; show sl.length <= _; omega)).mono fun v H7 hv => ?_
  obtain ⟨F7, a7, n7, c7, rfl, p7⟩ := hv; obtain ⟨m7, la, lc, rfl, rfl, hm7, q1, q2, own7, hlc⟩ := p7.single; have k7 := p7.keep; refine ⟨_, _, _, rfl, NilP.intro _ rfl ⟨by omega, by omega, ?_⟩⟩
  show elemAt _ 0 2 _; rw [Zdo]; refine ⟨sb, q1, _, _, _, q2, newB fun tb H8 f8 k8 b8 => ?_⟩; refine Zbaj (b := tb) [.bool sb, .slice la sl.length lc] 0 [] [.bool false, .slice none 0 0] H8 b8 rfl rfl (by simp [Zby]) fun H10 b10 o10 => ?_
  have b10 : Blk H10 tb Zh ⟨[.bool sb, .slice la sl.length lc]⟩ := b10; have k710 : Keep Nil H7 H10 := Zkl k8 (Zgd b10 o10) fun x hx => by subst hx; exact f8
  have own10 : Sh.Own H0 H10 la sl.length lc 1 Zl (v32 sl) := (Zfb own7 k710 fun _ h => h.elim).mono kk; have laF : ∀ m, la = some ⟨m, 0, none⟩ -> ¬ F m := fun m e hf => ps.live hf (own7.free e); have ps10 := ps.kept (k7.trans k710); have put : ∀ {H11 : Heap} {k lf' : Nat}, PSt H0 H11 F a n c out -> Blk H11 tb Zh ⟨[.bool sb, .slice la k lc]⟩ -> k <= sl.length -> Sh.Own H0 H11 la sl.length lc 1 Zl (v32 sl) -> lf' <= L -> (out ++ [(sb, sl.take k)]) ++ Zbh (two.drop (i + 1)) lf' = Zbh two L ->
      Ztm ta tn tc fa fn fc a n c (i : Int) tb (fun x' H' => ∃ k', k' < two.length - i ∧ ∃ (i left : Nat) (out : List Seg) (F : Nat -> Prop) (a : Option Addr) (n c : Nat), x' = ((left : Int), ((a, n, c), ((i : Int), ()))) ∧ k' = two.length - i ∧ i <= two.length ∧ left <= L ∧ out ++ Zbh (two.drop i) left = Zbh two L ∧ PSt H0 H' F a n c out) (lf' : Int) H11 R := fun {H11 k lf'} p11 b11 hk own11 hlf he => by
    unfold Ztm; rw [hw1]; have ot := Zcnf own11 hk; rw [Zcfc] at ot; have hkl : (sl.take k).length = k := by rw [List.length_take]; omega
    refine ⟨_, Zbx b11 0 rfl, _, _, _, Zbx b11 1 rfl, newB fun xb H12 f12 k12 b12 => ?_⟩; refine (p11.kept k12).put (l := sl.take k) (lc := lc) (b := sb) (by omega) (by rw [hkl]; exact b12) (by rw [hkl]; exact Zfb ot k12 fun _ h => h.elim) laF hlc fun a' c' H13 F' t1 t2 t3 => ⟨_, _, _, rfl, two.length - (i + 1), by omega, i + 1, lf', _, F', a', n + 1, c', rfl, rfl, by omega, hlf, he, t1⟩
  rw [hd] at hout; refine ⟨sb, Zbx b10 0 rfl, ?_⟩; cases sb
  . rw [Zbph rfl, show ∀ (x : Seg) (r : List Seg), out ++ x :: r = (out ++ [x]) ++ r from fun x r => by simp] at hout
    simp only at hout; have hmin : min ((lf + 1 : Nat) : Int) (sl.length : Int) = ((min (lf + 1) sl.length : Nat) : Int) := by omega
    refine ifF rfl ⟨_, _, _, Zbx b10 1 rfl, _, _, _, Zbx b10 1 rfl, ?_⟩; rw [hmin]; have hol2 := own10.le; refine ⟨by omega, by omega, ?_⟩
    simp only [Int.toNat_natCast]; refine Zt.blk b10 (by simp) rfl ?_
    have eset : (⟨[Value.bool false, .slice la sl.length lc]⟩ : Array Value).setIfInBounds 1 (.slice la (min (lf + 1) sl.length) lc) = ⟨[Value.bool false, .slice la (min (lf + 1) sl.length) lc]⟩ := by apply Array.ext'; simp
    rw [eset]; have hb14 : Blk (H10.upd tb (.cells ⟨[Value.bool false, .slice la (min (lf + 1) sl.length) lc]⟩ Zh (0, 0))) tb Zh ⟨[Value.bool false, .slice la (min (lf + 1) sl.length) lc]⟩ := Blk.upd_eq; have ho14 : ∀ y, y ≠ tb -> (H10.upd tb (.cells ⟨[Value.bool false, .slice la (min (lf + 1) sl.length) lc]⟩ Zh (0, 0))) y = H10 y := fun y hy => Sh.upd_ne hy; generalize H10.upd tb (.cells ⟨[Value.bool false, .slice la (min (lf + 1) sl.length) lc]⟩ Zh (0, 0)) = H14 at hb14 ho14; have k14 := Zgd hb14 ho14; have tb0 : H0 tb = none := (kk.trans k7).free f8; have tbla : ∀ x, x = tb -> la ≠ some ⟨x, 0, none⟩ := fun x hx e => by subst hx; obtain ⟨q, h1⟩ := own10.live e; exact absurd (Zhd h1 b10) (by decide)
    have tbF : ¬ F tb := fun hf => (k7.live tb (ps.live hf)) f8; refine ⟨_, _, _, Zbx hb14 1 rfl, ?_⟩; have hwl : IntKind.wrap .i64 (((lf + 1 : Nat) : Int) - ((min (lf + 1) sl.length : Nat) : Int)) = ((lf + 1 - min (lf + 1) sl.length : Nat) : Int) := by rw [Zg (by omega) (by omega)]; omega
    rw [hwl]; refine put (ps10.step (S := fun x => x = tb) k14 fun x hx => by subst hx; exact ⟨tb0, tbF⟩) hb14 (by omega) (Zfb own10 k14 tbla) (by omega) ?_
    rw [Zboy]; exact hout
  . rw [Zbjv rfl, show ∀ (x : Seg) (r : List Seg), out ++ x :: r = (out ++ [x]) ++ r from fun x r => by simp] at hout
    have hwl : IntKind.wrap .i64 (((lf + 1 : Nat) : Int) - 1) = (lf : Int) := by rw [Zg (by omega) (by omega)]; omega
    rw [hwl]; refine ifT rfl (put ps10 b10 (Nat.le_refl _) own10 (by omega) ?_)
    rw [List.take_length]; exact hout
end Go.Proofs.YtflfamhboalgiaaDoor
end
section
set_option maxRecDepth 100000
namespace Go.Proofs.YtflfamhboalgiaaDoor
open Go.Sh
def hasS (u : UInt32) (s : Seg) : Bool := s.2.any fun x => (x.toNat : Int) == (u.toNat : Int)
def hasP (p : List Seg) (u : UInt32) : Bool := p.any (hasS u)
theorem Zclq {H : Heap} (hy : Lyd H) {Z : Nat -> Prop} {l : List UInt32} {v : Value} (u : UInt32) (hz : ∀ x, Z x -> H x ≠ none) (hp : Zb Z H kU32 l v) (hl : l.length <= 1000000) : FnW Tryd.prog Zlz ⟨[v, .int .u32 (u.toNat : Int)]⟩ H fun w H' => Keep Nil H H' ∧ w = .bool (l.any fun x => (x.toNat : Int) == (u.toNat : Int)) := by
  refine (FnQ.run (x := ((l, ((u.toNat : Nat) : Int), ()) : PkTs Znn)) Zbyy rfl rfl (Z := Z) ?_ hz hy.live hy.ok (K := fun y => y = ((l.any fun x => (x.toNat : Int) == (u.toNat : Int)), ())) (Zbud l _ _ (by omega) rfl)).mono fun w H' hk => ?_
  show SimL (gZ Z) H 0 [AV.lst [.int .u32] l, .int .u32 (u.toNat : Int)] _; simp only [SimL, SimV, and_true, true_and]; exact ⟨hp, Zbti u⟩; obtain ⟨hk, y, rfl, _, hv⟩ := hk; have := hv 0 (gZ fun _ => False); simp only [pksA, pkA, outA, SimV] at this; exact ⟨hk, this⟩
theorem Zctt {H : Heap} (hy : Lyd H) {Z : Nat -> Prop} {s : Seg} {u : UInt32} {sa : Option Addr} {sn sc b1 : Nat} {T : TypeId} (hz : ∀ x, Z x -> H x ≠ none) (hp : Zb Z H kU32 s.2 (.slice sa sn sc)) (hl : s.2.length <= 1000000) (hb : Blk H b1 T ⟨[.int .u32 (u.toNat : Int)]⟩) :
    FnW Tryd.prog Zkj ⟨[.agg ⟨[.bool s.1, .slice sa sn sc]⟩, .pointer (some ⟨b1, 0, none⟩)]⟩ H fun v H' => Keep Nil H H' ∧ v = .bool (hasS u s) := by
  refine Zcia s.1 sa sn sc b1 ?_; unfold Zbbi; refine newB fun m H1 f1 k1 h1 => ⟨_, _, _, Zbx h1 1 rfl, _, Zbx (k1.blk hb fun h => h) 0 rfl, ?_⟩; have hp1 : Zb Z H1 kU32 s.2 (.slice sa sn sc) := Zb.ext (fun x hx => ⟨hx, k1.same x (fun h => h) (hz x hx)⟩) _ _ _ hp; refine (Zclq (hy.keep k1) u (fun x hx => k1.live x (hz x hx)) hp1 hl).mono fun w H2 hw => ?_; obtain ⟨k2, rfl⟩ := hw; exact ⟨_, rfl, fun H3 hs => ⟨Zdx (k1.trans k2) hs, rfl⟩⟩
theorem Zcnc {H : Heap} (hy : Lyd H) {Z : Nat -> Prop} {p : List Seg} {v : Value} (u : UInt32) (hz : ∀ x, Z x -> H x ≠ none) (hp : Zb Z H Zbz p v) (hl : p.length <= 100000) (hs : ∀ s ∈ p, s.2.length <= 1000000) :
    FnW Tryd.prog Znv ⟨[v, .int .u32 (u.toNat : Int)]⟩ H fun v H' => Keep Nil H H' ∧ v = .bool (hasP p u) := by
  obtain ⟨pa, pn, pc, rfl⟩ := Zhq hp; have hpn : pn = p.length := (Zjh (ks := Zbl) hp).1; refine Zcnm _ _ _ _ ?_; unfold Zbeq; refine newB fun ab H1 f1 k1 h1 => ?_; refine FnW.mono (Zcrr (R := fun v H' => Keep Nil H1 H' ∧ v = .bool (hasP p u)) pa pn pc Zkj (.pointer (some ⟨ab, 0, none⟩)) ?_) fun v H2 hv => ?_
  rotate_left
  obtain ⟨k, rfl⟩ := hv; exact ⟨_, rfl, fun H3 hs => ⟨Zdx (k1.trans k) hs, rfl⟩⟩; unfold Zbhk; refine FnW.mono (Zcgr (R := fun v H' => Keep Nil H1 H' ∧ ∃ n : Int, v = .int .i64 n ∧ decide (n ≥ 0) = hasP p u) pa pn pc Zkj (.pointer (some ⟨ab, 0, none⟩)) ?_) fun v H2 hv => ?_
  rotate_left
  obtain ⟨k, n, rfl, hn⟩ := hv; exact ⟨_, rfl, fun H3 hs => ⟨Zdx k hs, by rw [hn]⟩⟩
  unfold Zbdy; refine ⟨fun k x Hc => ∃ pre post : List Seg, x = ((pre.length : Int), ()) ∧ k = post.length ∧ p = pre ++ post ∧ (∀ s ∈ pre, hasS u s = false) ∧ Keep Nil H Hc ∧ Keep Nil H1 Hc, p.length, ⟨[], p, rfl, rfl, rfl, by simp, k1, Keep.refl _ _⟩, ?_⟩
  rintro k x H2 ⟨pre, post, rfl, rfl, hpp, hno, kk, kk1⟩ g; have hpl : p.length = pre.length + post.length := by rw [hpp, List.length_append]
  have hp2 : Zb Z H2 Zbz p (.slice pa pn pc) := Zb.ext (fun x hx => ⟨hx, kk.same x (fun h => h) (hz x hx)⟩) _ _ _ hp; show Zbhw pa pn pc Zkj _ (pre.length : Int) H2 _ _; unfold Zbhw; cases post with
  | nil =>
    simp only [List.append_nil] at hpp; subst hpp; refine ifF (decide_eq_false (by simp only [List.length_nil] at hpl; omega)) fun H3 hs3 => ⟨Zdx kk1 hs3, -1, rfl, ?_⟩
    have : hasP p u = false := by unfold hasP; rw [List.any_eq_false]; intro s hs; rw [hno s hs]; decide
    rw [this]; rfl
  | cons s post =>
    simp only [List.length_cons] at hpl; have hget : p[pre.length]? = some s := by rw [hpp]; simp
    obtain ⟨b, o, sa, sn, sc, rfl, hzb, hbl, q1, q2, q3⟩ := Zns hp2 hget; have hsl : s.2.length <= 1000000 := hs s (by rw [hpp]; simp)
    refine ifT (decide_eq_true (by omega)) (NilP.intro _ rfl (InB.intro pre.length rfl (by omega) ?_))
    rw [Zdo]; refine ⟨_, q1, _, _, _, q2, (Zctt (hy.keep kk) (u := u) (fun x hx => kk.live x (hz x hx)) q3 hsl (kk1.blk h1 fun h => h)).mono fun w H3 hw => ?_⟩; obtain ⟨k3, rfl⟩ := hw; refine ⟨_, rfl, IfB.intro (fun h => ?_) fun h => ?_⟩
    . refine fun H4 hs4 => ⟨Zdx (kk1.trans k3) hs4, _, rfl, ?_⟩; have : hasP p u = true := by unfold hasP; rw [List.any_eq_true]; exact ⟨s, by rw [hpp]; simp, h⟩
      rw [this]; exact decide_eq_true (by omega)
    . refine ⟨post.length, by simp, pre ++ [s], post, ?_, rfl, by rw [hpp]; simp, fun t ht => ?_, kk.trans k3, kk1.trans k3⟩
      . have : IntKind.wrap .i64 ((pre.length : Int) + 1) = ((pre ++ [s]).length : Int) := by rw [Zg (by omega) (by omega)]; simp
        rw [this]
      rcases List.mem_append.1 ht with ht | ht; exact hno t ht; rw [List.mem_singleton] at ht; subst ht; exact h
abbrev Zok : List Pk := [Pk.str]
abbrev Zmk : List Pk := [Pk.lst Zbl, Pk.int .i64]
def Zkb (s : List UInt8) (K : List Seg -> Int -> Prop) : Prop := s.length <= 1000 ∧ psK (Zct s) K
theorem Zbqg {f : FuncId} (hf : ∀ {H0 : Heap}, Lyd H0 -> ∀ s : List UInt8, s.length <= 1000 -> FnW Tryd.prog f ⟨[.string (bstr s)]⟩ H0 (Zha H0 s)) : FnQ Tryd.prog f Zok Zmk (fun x K => Zkb x.1 (fun r0 r1 => K (r0, r1, ()))) := by
  refine Zpl rfl (fun _ => rfl) fun x K hx H Z vs hsl hz hlay hlo => ?_; obtain ⟨s, u⟩ := x; obtain ⟨hb, hk⟩ := hx; change List UInt8 at s; have hsl' : SimL (gZ Z) H 0 [.str s] vs := hsl
  match vs, hsl' with
  | [v0], hsl' =>
  simp only [SimL, SimV, and_true] at hsl'; obtain ⟨rfl, _⟩ := hsl'; refine (hf ⟨hlay, hlo⟩ s hb).mono fun v H' hv => ?_; obtain ⟨k, Zn, p, va, e, hf, rfl, hc, hr⟩ := hv; have hsim : SimV (gZ fun b => Z b ∨ Zn b) H' 0 (.tup [.lst Zbl p, .int .i64 e]) (.tuple ⟨[va, .int .i64 e]⟩) := by simp only [SimV]; refine ⟨_, rfl, ?_⟩; simp only [SimL, SimV, and_true, true_and]; refine ⟨Zb.ext (fun x hx => ⟨.inr hx, rfl⟩) _ _ _ hc, ?_⟩; rcases hr with ⟨_, rfl⟩ | ⟨_, _, rfl⟩ <;> exact ⟨by decide, by decide⟩
  rcases hr with ⟨hr, rfl⟩ | ⟨hr, rfl, rfl⟩; have hk : psK (Zct s) (fun r0 r1 => K (r0, r1, ())) := hk; rw [hr] at hk; exact ⟨k, (p, (0 : Int), ()), Zn, hk, hf.fresh, hsim⟩; have hk : psK (Zct s) (fun r0 r1 => K (r0, r1, ())) := hk; rw [hr] at hk; exact ⟨k, ([], (5 : Int), ()), Zn, hk, hf.fresh, hsim⟩
theorem Zcka : FnQ Tryd.prog Zke Zok Zmk (fun x K => Zkb x.1 (fun r0 r1 => K (r0, r1, ()))) := Zbqg fun hy s hl => Zcos hy s hl
noncomputable def Zue : Ct := Zcy Zok Zmk (fun x K => Zkb x.1 (fun r0 r1 => K (r0, r1, ())))
theorem Zzx : Zz Tryd.prog Zke Zue := Zdk Zcka
abbrev Zbir : List Pk := [Pk.str]
abbrev Zbii : List Pk := [Pk.lst Zbl, Pk.int .i64]
def Zbat (s : List UInt8) (K : List Seg -> Int -> Prop) : Prop := Zkb s K
theorem Zcei : FnQ Tryd.prog Zmd Zbir Zbii (fun x K => Zbat x.1 (fun r0 r1 => K (r0, r1, ()))) := Zbqg fun hy s hl => Zcsi hy s hl
noncomputable def Zbyj : Ct := Zcy Zbir Zbii (fun x K => Zbat x.1 (fun r0 r1 => K (r0, r1, ())))
theorem Zcar : Zz Tryd.prog Zmd Zbyj := Zdk Zcei
abbrev Zrc : List Pk := [Pk.lst Zbl, Pk.int .u32, Pk.int .i64]
abbrev Zpp : List Pk := [Pk.lst Zbl, Pk.int .i64]
def Zpk (p : List Seg) (u n : Int) (K : List Seg -> Int -> Prop) : Prop := p.length <= 10000 ∧ cnt p <= 1000000 ∧ K (Zcb p (UInt32.ofNat u.toNat) n).1 (Zcb p (UInt32.ofNat u.toNat) n).2
theorem Zcjb (p : List Seg) (u : UInt32) (n : Int) : InR .i64 (Zcb p u n).2 := by
  unfold Zcb; split; exact ⟨by decide, by decide⟩
  . split; exact ⟨by decide, by decide⟩
    exact ⟨by simp only [loI]; omega, by simp only [hiI]; omega⟩
theorem Zckz : FnQ Tryd.prog Zjw Zrc Zpp (fun x K => Zpk x.1 x.2.1 x.2.2.1 (fun r0 r1 => K (r0, r1, ()))) := by
  refine Zpl rfl (fun _ => rfl) fun x K hx H Z vs hsl hz hlay hlo => ?_; obtain ⟨p, u, n, _⟩ := x; obtain ⟨h1, h2, hk⟩ := hx; change List Seg at p; change Int at u; change Int at n; have hsl' : SimL (gZ Z) H 0 [.lst Zbl p, .int .u32 u, .int .i64 n] vs := hsl
  match vs, hsl' with
  | [v0, v1, v2], hsl' =>
  simp only [SimL, SimV, and_true] at hsl'; obtain ⟨h0, ⟨rfl, hu⟩, rfl, hn⟩ := hsl'; simp only [InR, loI, hiI] at hu; obtain ⟨w, rfl⟩ : ∃ w : Nat, u = w := ⟨u.toNat, by omega⟩
  have hw : (UInt32.ofNat w).toNat = w := by rw [UInt32.toNat_ofNat', Nat.mod_eq_of_lt (by omega)]
  have run := Zccc (u := UInt32.ofNat w) ⟨hlay, hlo⟩ hz h0 h1 h2 hn; rw [hw] at run; refine run.mono fun v H' hv => ?_; obtain ⟨k, Zn, va, hf, rfl, hc⟩ := hv; refine ⟨k, ((Zcb p (UInt32.ofNat w) n).1, (Zcb p (UInt32.ofNat w) n).2, ()), Zn, hk, hf.fresh, ?_⟩; show SimV (gZ fun b => Z b ∨ Zn b) H' 0 (.tup [.lst Zbl (Zcb p (UInt32.ofNat w) n).1, .int .i64 (Zcb p (UInt32.ofNat w) n).2]) _; simp only [SimV]; refine ⟨_, rfl, ?_⟩; simp only [SimL, SimV, and_true, true_and]; exact ⟨Zb.ext (fun x hx => ⟨.inr hx, rfl⟩) _ _ _ hc, Zcjb _ _ _⟩
noncomputable def Zvs : Ct := Zcy Zrc Zpp (fun x K => Zpk x.1 x.2.1 x.2.2.1 (fun r0 r1 => K (r0, r1, ())))
theorem Zbfo : Zz Tryd.prog Zjw Zvs := Zdk Zckz
abbrev Zbch : List Pk := [Pk.lst Zbl, Pk.lst Zbl]
abbrev Zbcc : List Pk := [Pk.lst Zbl]
def Zbew (p q : List Seg) (K : List Seg -> Prop) : Prop := p.length + cnt p <= 8000 ∧ q.length + cnt q <= 8000 ∧ K (Zfe p q)
theorem Zcqo : FnQ Tryd.prog Znx Zbch Zbcc (fun x K => Zbew x.1 x.2.1 (fun r0 => K (r0, ()))) := by
  refine Zpl rfl (fun _ => rfl) fun x K hx H Z vs hsl hz hlay hlo => ?_; obtain ⟨p, q, _⟩ := x; obtain ⟨h1, h2, hk⟩ := hx; change List Seg at p; change List Seg at q; have hsl' : SimL (gZ Z) H 0 [.lst Zbl p, .lst Zbl q] vs := hsl
  match vs, hsl' with
  | [v0, v1], hsl' =>
  simp only [SimL, SimV, and_true] at hsl'; refine (Zctr ⟨hlay, hlo⟩ hz hsl'.1 hsl'.2 h1 h2).mono fun v H' hv => ?_; obtain ⟨k, Zn, hf, hc⟩ := hv; refine ⟨k, (Zfe p q, ()), Zn, hk, hf.fresh, ?_⟩; show SimV (gZ fun b => Z b ∨ Zn b) H' 0 (.lst Zbl (Zfe p q)) _; simp only [SimV]; exact Zb.ext (fun x hx => ⟨.inr hx, rfl⟩) _ _ _ hc
noncomputable def Zbuv : Ct := Zcy Zbch Zbcc (fun x K => Zbew x.1 x.2.1 (fun r0 => K (r0, ())))
theorem Zcjl : Zz Tryd.prog Znx Zbuv := Zdk Zcqo
abbrev Zbil : List Pk := [Pk.lst Zbl, Pk.int .u32]
abbrev Zbeo : List Pk := [Pk.bool]
def Zbem (p : List Seg) (u : Int) (K : Bool -> Prop) : Prop := p.length <= 100000 ∧ cnt p <= 1000000 ∧ K (hasP p (UInt32.ofNat u.toNat))
theorem Zcpd : FnQ Tryd.prog Znv Zbil Zbeo (fun x K => Zbem x.1 x.2.1 (fun r0 => K (r0, ()))) := by
  refine Zpl rfl (fun _ => rfl) fun x K hx H Z vs hsl hz hlay hlo => ?_; obtain ⟨p, u, _⟩ := x; obtain ⟨h1, h2, hk⟩ := hx; change List Seg at p; change Int at u; have hsl' : SimL (gZ Z) H 0 [.lst Zbl p, .int .u32 u] vs := hsl
  match vs, hsl' with
  | [v0, v1], hsl' =>
  simp only [SimL, SimV, and_true] at hsl'; obtain ⟨h0, rfl, hu⟩ := hsl'; simp only [InR, loI, hiI] at hu; obtain ⟨w, rfl⟩ : ∃ w : Nat, u = w := ⟨u.toNat, by omega⟩
  have hw : (UInt32.ofNat w).toNat = w := by rw [UInt32.toNat_ofNat', Nat.mod_eq_of_lt (by omega)]
  change p.length <= 100000 at h1; change cnt p <= 1000000 at h2; have run := Zcnc ⟨hlay, hlo⟩ (UInt32.ofNat w) hz h0 h1 (fun s hs => by have := Zew hs; omega)
  rw [hw] at run; refine run.mono fun v H' hv => ?_; obtain ⟨k, rfl⟩ := hv; exact ⟨k, (hasP p (UInt32.ofNat w), ()), fun _ => False, hk, Zjt.none, by simp only [pksA, pkA, outA, SimV]⟩
noncomputable def Zbve : Ct := Zcy Zbil Zbeo (fun x K => Zbem x.1 x.2.1 (fun r0 => K (r0, ())))
theorem Zccl : Zz Tryd.prog Znv Zbve := Zdk Zcpd
end Go.Proofs.YtflfamhboalgiaaDoor
end
