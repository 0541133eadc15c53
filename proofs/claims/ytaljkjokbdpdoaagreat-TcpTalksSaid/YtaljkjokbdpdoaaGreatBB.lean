/-
  SOME FUNCTIONS IN PLAIN LOGIC: printed by a program of ours over this translation.
-/
import Derived.Test.YtaljkjokbdpdoaaGreatBA
import Derived.Test.YtaljkjokbdpdoaaGreatRows
set_option linter.all false
section
set_option maxRecDepth 100000
namespace Go.Proofs.YtaljkjokbdpdoaaGreat
open Go.Sh
def Zblp : Plan := ⟨[(5, [0, 1, 2, 3, 4, 5, 6, 7, 8, 9, 10, 11, 12, 13], [51])], [(17, [21], [.int .i64], [2, 3, 9, 13, 15, 16, 18, 20]), (26, [30], [.int .i64], [2, 3, 9, 13, 15, 16, 18, 20, 22, 24, 25, 27, 29])], [], []⟩
theorem Zbti : Known Tryz.prog Zvt Tryz.f4 Zblp (Zb Tryz.f4) := by refine ⟨Tryz.func4, ?_, ?_, ?_, ?_, ?_⟩ <;> kernel_rfl
def Zbcg (first2a : Option Addr) (x40h : Nat) (first2c : Nat) (second3a : Option Addr) (x45h : Nat) (second3c : Nat) (x35 : Option Addr) (x73r0 : Int) (x73r2 : Int) (x84r0 : Int) (x84r2 : Int) (x100r1 : Int) (x120r0a : Option Addr) (x120r0n : Nat) (x120r0c : Nat) (x120r2 : Int) (x130r0a : Option Addr) (x130r0n : Nat) (x130r0c : Nat) (x130r2 : Int) (x140r1 : Int) (next17 : (Int × Unit) -> Heap -> Prop) (i30 : Int) (H22 : Heap) (next26 : (Int × Unit) -> Heap -> Prop) (R : Value -> Heap -> Prop) : Prop :=
 IfB (decide ((i30 : Int) < 20))
 (FnW Tryz.prog Zcn ⟨[(Value.pointer x35), (Value.int .i64 2), (Value.int .i64 0)]⟩ H22 fun x151v H23 =>
 ∃ (x151a : Option Addr) (x151n x151c : Nat), x151v = (Value.slice x151a x151n x151c) ∧
 FnW Tryz.prog Zcn ⟨[(Value.pointer x35), (Value.int .i64 2), (Value.int .i64 1)]⟩ H23 fun x153v H24 =>
 ∃ (x153a : Option Addr) (x153n x153c : Nat), x153v = (Value.slice x153a x153n x153c) ∧
 next26 ((IntKind.wrap .i64 (i30 + 1)), ()) H24)
 (IfB ((x73r2 : Int) == 0)
 (IfB ((x84r2 : Int) == 0)
 (IfB ((x100r1 : Int) == 0)
 (IfB ((x120r2 : Int) == 0)
 (IfB ((x130r2 : Int) == 0)
 (IfB ((x140r1 : Int) == 0)
 (IfB ((x73r0 : Int) == (x40h : Int))
 (IfB ((x84r0 : Int) == (x45h : Int))
 (FnW Tryz.prog Zmg ⟨[(Value.slice x120r0a x120r0n x120r0c), (Value.slice first2a x40h first2c)]⟩ H22 fun x191v H25 =>
 ∃ x191 : Bool, x191v = (Value.bool x191) ∧
 IfB x191
 (FnW Tryz.prog Zmg ⟨[(Value.slice x130r0a x130r0n x130r0c), (Value.slice second3a x45h second3c)]⟩ H25 fun x196v H26 =>
 ∃ x196 : Bool, x196v = (Value.bool x196) ∧
 IfB x196
 (NilP x35 fun x200p =>
 InB 1 2 fun x202i =>
 elemAt x200p x202i 1 fun x202p =>
 ∃ x203 : Option Addr, H26.cell x202p = some (Value.pointer x203) ∧
 FnW Tryz.prog Zht ⟨[(Value.pointer x203), (Value.int .i64 1)]⟩ H26 fun x204v H27 =>
 ∃ x204 : Int, x204v = (Value.int .i64 x204) ∧
 IfB ((x204 : Int) == 0)
 (NilP x35 fun x209p =>
 InB 0 2 fun x211i =>
 elemAt x209p x211i 1 fun x211p =>
 ∃ x212 : Option Addr, H27.cell x211p = some (Value.pointer x212) ∧
 FnW Tryz.prog Zht ⟨[(Value.pointer x212), (Value.int .i64 1)]⟩ H27 fun x213v H28 =>
 ∃ x213 : Int, x213v = (Value.int .i64 x213) ∧
 R (Value.bool ((x213 : Int) == 9)) H28)
 (R (Value.bool false) H27))
 (R (Value.bool false) H26))
 (R (Value.bool false) H25))
 (R (Value.bool false) H22))
 (R (Value.bool false) H22))
 (R (Value.bool false) H22))
 (R (Value.bool false) H22))
 (R (Value.bool false) H22))
 (R (Value.bool false) H22))
 (R (Value.bool false) H22))
 (R (Value.bool false) H22))
def Zbjq (first2a : Option Addr) (x40h : Nat) (first2c : Nat) (second3a : Option Addr) (x45h : Nat) (second3c : Nat) (x35 : Option Addr) (x73r0 : Int) (x73r2 : Int) (x84r0 : Int) (x84r2 : Int) (x100r1 : Int) (i21 : Int) (H15 : Heap) (next17 : (Int × Unit) -> Heap -> Prop) (R : Value -> Heap -> Prop) : Prop :=
 IfB (decide ((i21 : Int) < 20))
 (FnW Tryz.prog Zcn ⟨[(Value.pointer x35), (Value.int .i64 1), (Value.int .i64 1)]⟩ H15 fun x111v H16 =>
 ∃ (x111a : Option Addr) (x111n x111c : Nat), x111v = (Value.slice x111a x111n x111c) ∧
 FnW Tryz.prog Zcn ⟨[(Value.pointer x35), (Value.int .i64 1), (Value.int .i64 0)]⟩ H16 fun x113v H17 =>
 ∃ (x113a : Option Addr) (x113n x113c : Nat), x113v = (Value.slice x113a x113n x113c) ∧
 next17 ((IntKind.wrap .i64 (i21 + 1)), ()) H17)
 (NilP x35 fun x116p =>
 InB 1 2 fun x118i =>
 elemAt x116p x118i 1 fun x118p =>
 ∃ x119 : Option Addr, H15.cell x118p = some (Value.pointer x119) ∧
 FnW Tryz.prog Zhi ⟨[(Value.pointer x119), (Value.int .i64 2), (Value.int .i64 1), (Value.int .i64 5000)]⟩ H15 fun x120v H18 =>
 ∃ (x120r0a : Option Addr) (x120r0n x120r0c : Nat), ∃ (x120r1a : Option Addr) (x120r1n x120r1c : Nat), ∃ x120r2 : Int, x120v = (Value.tuple ⟨[(Value.slice x120r0a x120r0n x120r0c), (Value.slice x120r1a x120r1n x120r1c), (Value.int .i64 x120r2)]⟩) ∧
 NilP x35 fun x126p =>
 InB 0 2 fun x128i =>
 elemAt x126p x128i 1 fun x128p =>
 ∃ x129 : Option Addr, H18.cell x128p = some (Value.pointer x129) ∧
 FnW Tryz.prog Zhi ⟨[(Value.pointer x129), (Value.int .i64 2), (Value.int .i64 1), (Value.int .i64 5000)]⟩ H18 fun x130v H19 =>
 ∃ (x130r0a : Option Addr) (x130r0n x130r0c : Nat), ∃ (x130r1a : Option Addr) (x130r1n x130r1c : Nat), ∃ x130r2 : Int, x130v = (Value.tuple ⟨[(Value.slice x130r0a x130r0n x130r0c), (Value.slice x130r1a x130r1n x130r1c), (Value.int .i64 x130r2)]⟩) ∧
 NilP x35 fun x136p =>
 InB 1 2 fun x138i =>
 elemAt x136p x138i 1 fun x138p =>
 ∃ x139 : Option Addr, H19.cell x138p = some (Value.pointer x139) ∧
 FnW Tryz.prog Zia ⟨[(Value.pointer x139), (Value.int .i64 2), (Value.int .i64 1)]⟩ H19 fun x140v H20 =>
 ∃ (x140r0a : Option Addr) (x140r0n x140r0c : Nat), ∃ x140r1 : Int, x140v = (Value.tuple ⟨[(Value.slice x140r0a x140r0n x140r0c), (Value.int .i64 x140r1)]⟩) ∧
 FnW Tryz.prog Zeq ⟨[(Value.pointer x35), (Value.int .i64 1), (Value.slice x140r0a x140r0n x140r0c)]⟩ H20 fun x145v H21 =>
 x145v = (Value.tuple ⟨[]⟩) ∧
 Zci (Int × Unit) (0, ()) H21 fun x H next => ∀ _g : Env, Zbcg first2a x40h first2c second3a x45h second3c x35 x73r0 x73r2 x84r0 x84r2 x100r1 x120r0a x120r0n x120r0c x120r2 x130r0a x130r0n x130r0c x130r2 x140r1 next17 x.1 H next R)
def Ztx (a0 : Int) (b1 : Int) (first2a : Option Addr) (first2n : Nat) (first2c : Nat) (second3a : Option Addr) (second3n : Nat) (second3c : Nat) (H : Heap) (R : Value -> Heap -> Prop) : Prop :=
 FnW Tryz.prog Zsj ⟨[]⟩ H fun x31v H1 =>
 ∃ x31 : Bool, x31v = (Value.bool x31) ∧
 IfB (!x31)
 (R (Value.bool false) H1)
 (FnW Tryz.prog Zkd ⟨[(Value.int .u32 a0), (Value.int .u32 b1)]⟩ H1 fun x35v H2 =>
 ∃ x35 : Option Addr, x35v = (Value.pointer x35) ∧
 InC (min (first2n : Int) 3000) first2c fun x40h =>
 InC (min (second3n : Int) 3000) second3c fun x45h =>
 ∃ bs : List Nat, (∀ b ∈ bs, ∃ o, H2 b = some o) ∧
 NilP x35 fun x48p =>
 InB 0 2 fun x50i =>
 elemAt x48p x50i 1 fun x50p =>
 x50p.block ∈ bs ∧ ∃ x51 : Option Addr, H2.cell x50p = some (Value.pointer x51) ∧
 FnW Tryz.prog Zfw ⟨[(Value.int .i64 1)]⟩ H2 fun x52v H3 =>
 ∃ x52 : Int, x52v = (Value.int .u32 x52) ∧
 Ze bs H2 H3 ∧ FnW Tryz.prog Zjq ⟨[(Value.pointer x51), (Value.int .i64 0), (Value.int .u32 x52), (Value.int .i64 179)]⟩ H3 fun x53v H4 =>
 ∃ x53r0 : Int, ∃ (x53r1a : Option Addr) (x53r1n x53r1c : Nat), ∃ x53r2 : Int, x53v = (Value.tuple ⟨[(Value.int .i64 x53r0), (Value.slice x53r1a x53r1n x53r1c), (Value.int .i64 x53r2)]⟩) ∧
 Ze bs H2 H4 ∧ FnW Tryz.prog Zeq ⟨[(Value.pointer x35), (Value.int .i64 0), (Value.slice x53r1a x53r1n x53r1c)]⟩ H4 fun x59v H5 =>
 x59v = (Value.tuple ⟨[]⟩) ∧
 FnW Tryz.prog Zcn ⟨[(Value.pointer x35), (Value.int .i64 0), (Value.int .i64 1)]⟩ H5 fun x61v H6 =>
 ∃ (x61a : Option Addr) (x61n x61c : Nat), x61v = (Value.slice x61a x61n x61c) ∧
 FnW Tryz.prog Zcn ⟨[(Value.pointer x35), (Value.int .i64 0), (Value.int .i64 0)]⟩ H6 fun x63v H7 =>
 ∃ (x63a : Option Addr) (x63n x63c : Nat), x63v = (Value.slice x63a x63n x63c) ∧
 FnW Tryz.prog Zcn ⟨[(Value.pointer x35), (Value.int .i64 0), (Value.int .i64 1)]⟩ H7 fun x65v H8 =>
 ∃ (x65a : Option Addr) (x65n x65c : Nat), x65v = (Value.slice x65a x65n x65c) ∧
 NilP x35 fun x68p =>
 InB 0 2 fun x70i =>
 elemAt x68p x70i 1 fun x70p =>
 ∃ x71 : Option Addr, H8.cell x70p = some (Value.pointer x71) ∧
 FnW Tryz.prog Zhl ⟨[(Value.pointer x71), (Value.int .i64 1), (Value.int .i64 1), (Value.slice first2a x40h first2c)]⟩ H8 fun x73v H9 =>
 ∃ x73r0 : Int, ∃ (x73r1a : Option Addr) (x73r1n x73r1c : Nat), ∃ x73r2 : Int, x73v = (Value.tuple ⟨[(Value.int .i64 x73r0), (Value.slice x73r1a x73r1n x73r1c), (Value.int .i64 x73r2)]⟩) ∧
 NilP x35 fun x79p =>
 InB 1 2 fun x81i =>
 elemAt x79p x81i 1 fun x81p =>
 ∃ x82 : Option Addr, H9.cell x81p = some (Value.pointer x82) ∧
 FnW Tryz.prog Zhl ⟨[(Value.pointer x82), (Value.int .i64 1), (Value.int .i64 1), (Value.slice second3a x45h second3c)]⟩ H9 fun x84v H10 =>
 ∃ x84r0 : Int, ∃ (x84r1a : Option Addr) (x84r1n x84r1c : Nat), ∃ x84r2 : Int, x84v = (Value.tuple ⟨[(Value.int .i64 x84r0), (Value.slice x84r1a x84r1n x84r1c), (Value.int .i64 x84r2)]⟩) ∧
 FnW Tryz.prog Zeq ⟨[(Value.pointer x35), (Value.int .i64 0), (Value.slice x73r1a x73r1n x73r1c)]⟩ H10 fun x90v H11 =>
 x90v = (Value.tuple ⟨[]⟩) ∧
 FnW Tryz.prog Zeq ⟨[(Value.pointer x35), (Value.int .i64 1), (Value.slice x84r1a x84r1n x84r1c)]⟩ H11 fun x93v H12 =>
 x93v = (Value.tuple ⟨[]⟩) ∧
 NilP x35 fun x96p =>
 InB 0 2 fun x98i =>
 elemAt x96p x98i 1 fun x98p =>
 ∃ x99 : Option Addr, H12.cell x98p = some (Value.pointer x99) ∧
 FnW Tryz.prog Zia ⟨[(Value.pointer x99), (Value.int .i64 1), (Value.int .i64 1)]⟩ H12 fun x100v H13 =>
 ∃ (x100r0a : Option Addr) (x100r0n x100r0c : Nat), ∃ x100r1 : Int, x100v = (Value.tuple ⟨[(Value.slice x100r0a x100r0n x100r0c), (Value.int .i64 x100r1)]⟩) ∧
 FnW Tryz.prog Zeq ⟨[(Value.pointer x35), (Value.int .i64 0), (Value.slice x100r0a x100r0n x100r0c)]⟩ H13 fun x105v H14 =>
 x105v = (Value.tuple ⟨[]⟩) ∧
 Zci (Int × Unit) (0, ()) H14 fun x H next => ∀ _g : Env, Zbjq first2a x40h first2c second3a x45h second3c x35 x73r0 x73r2 x84r0 x84r2 x100r1 x.1 H next R)
theorem Zbok (a0 : Int) (b1 : Int) (first2a : Option Addr) (first2n : Nat) (first2c : Nat) (second3a : Option Addr) (second3n : Nat) (second3c : Nat) (H : Heap) (R : Value -> Heap -> Prop) : Ztx a0 b1 first2a first2n first2c second3a second3n second3c H R = Zc Tryz.prog Zblp (Zb Tryz.f4) (env0 [(Value.int .u32 a0), (Value.int .u32 b1), (Value.slice first2a first2n first2c), (Value.slice second3a second3n second3c)]) H (RetW Tryz.prog Tryz.f4.results.toList R) := by kernel_rfl
theorem Zcjq (a0 : Int) (b1 : Int) (first2a : Option Addr) (first2n : Nat) (first2c : Nat) (second3a : Option Addr) (second3n : Nat) (second3c : Nat) {H : Heap} {R : Value -> Heap -> Prop} (h : Ztx a0 b1 first2a first2n first2c second3a second3n second3c H fun v H1 => ∀ H2, Shut H H1 H2 -> R v H2) : FnW Tryz.prog Zvt ⟨[(Value.int .u32 a0), (Value.int .u32 b1), (Value.slice first2a first2n first2c), (Value.slice second3a second3n second3c)]⟩ H R := FnW.of_code Zbti (by kernel_rfl) (Eq.mp (Zbok a0 b1 first2a first2n first2c second3a second3n second3c H _) h)
def Zbfo : Plan := ⟨[(4, [0, 1, 2, 3, 4, 5, 6, 7, 8, 9, 10, 11, 12, 13], [15])], [], [], []⟩
theorem Zbvs : Known Tryz.prog Zsj Tryz.f6 Zbfo (Zb Tryz.f6) := by refine ⟨Tryz.func6, ?_, ?_, ?_, ?_, ?_⟩ <;> kernel_rfl
def Zyi (H : Heap) (R : Value -> Heap -> Prop) : Prop :=
 FnW Tryz.prog Zkd ⟨[(Value.int .u32 7), (Value.int .u32 8)]⟩ H fun x7v H1 =>
 ∃ x7 : Option Addr, x7v = (Value.pointer x7) ∧
 IfB x7.isNone
 (R (Value.bool false) H1)
 (∃ bs : List Nat, (∀ b ∈ bs, ∃ o, H1 b = some o) ∧
 NilP x7 fun x12p =>
 InB 0 2 fun x14i =>
 elemAt x12p x14i 1 fun x14p =>
 x14p.block ∈ bs ∧ ∃ x15 : Option Addr, H1.cell x14p = some (Value.pointer x15) ∧
 FnW Tryz.prog Zfw ⟨[(Value.int .i64 1)]⟩ H1 fun x16v H2 =>
 ∃ x16 : Int, x16v = (Value.int .u32 x16) ∧
 Ze bs H1 H2 ∧ FnW Tryz.prog Zjq ⟨[(Value.pointer x15), (Value.int .i64 0), (Value.int .u32 x16), (Value.int .i64 179)]⟩ H2 fun x17v H3 =>
 ∃ x17r0 : Int, ∃ (x17r1a : Option Addr) (x17r1n x17r1c : Nat), ∃ x17r2 : Int, x17v = (Value.tuple ⟨[(Value.int .i64 x17r0), (Value.slice x17r1a x17r1n x17r1c), (Value.int .i64 x17r2)]⟩) ∧
 Ze bs H1 H3 ∧ FnW Tryz.prog Zeq ⟨[(Value.pointer x7), (Value.int .i64 0), (Value.slice x17r1a x17r1n x17r1c)]⟩ H3 fun x23v H4 =>
 x23v = (Value.tuple ⟨[]⟩) ∧
 FnW Tryz.prog Zcn ⟨[(Value.pointer x7), (Value.int .i64 0), (Value.int .i64 1)]⟩ H4 fun x25v H5 =>
 ∃ (x25a : Option Addr) (x25n x25c : Nat), x25v = (Value.slice x25a x25n x25c) ∧
 FnW Tryz.prog Zcn ⟨[(Value.pointer x7), (Value.int .i64 0), (Value.int .i64 0)]⟩ H5 fun x27v H6 =>
 ∃ (x27a : Option Addr) (x27n x27c : Nat), x27v = (Value.slice x27a x27n x27c) ∧
 FnW Tryz.prog Zcn ⟨[(Value.pointer x7), (Value.int .i64 0), (Value.int .i64 1)]⟩ H6 fun x29v H7 =>
 ∃ (x29a : Option Addr) (x29n x29c : Nat), x29v = (Value.slice x29a x29n x29c) ∧
 IfB ((x17r0 : Int) == 1)
 (IfB ((x17r2 : Int) == 0)
 (IfB (((x27n : Int) : Int) == 1)
 (NilP x27a fun x43q =>
 InB 0 x27n fun x43i =>
 elemAt x43q x43i 2 fun x43p =>
 ∃ x44c0 : Int, H7.cell x43p = some (Value.int .i64 x44c0) ∧ ∃ x44c1 : Int, H7.cell ⟨x43p.block, x43p.off + 1, none⟩ = some (Value.int .i64 x44c1) ∧ Program.eqGuardType Tryz.prog (Program.depth Tryz.prog) Zbe = false ∧
 IfB (((x44c0 : Int) == 1) && (((x44c1 : Int) == 1) && true))
 (IfB (((x29n : Int) : Int) == 1)
 (NilP x29a fun x55q =>
 InB 0 x29n fun x55i =>
 elemAt x55q x55i 2 fun x55p =>
 ∃ x56c0 : Int, H7.cell x55p = some (Value.int .i64 x56c0) ∧ ∃ x56c1 : Int, H7.cell ⟨x55p.block, x55p.off + 1, none⟩ = some (Value.int .i64 x56c1) ∧ NilP x27a fun x58q =>
 InB 0 x27n fun x58i =>
 elemAt x58q x58i 2 fun x58p =>
 ∃ x59c0 : Int, H7.cell x58p = some (Value.int .i64 x59c0) ∧ ∃ x59c1 : Int, H7.cell ⟨x58p.block, x58p.off + 1, none⟩ = some (Value.int .i64 x59c1) ∧ Program.eqGuardType Tryz.prog (Program.depth Tryz.prog) Zbe = false ∧
 IfB (((x56c0 : Int) == x59c0) && (((x56c1 : Int) == x59c1) && true))
 (NilP x7 fun x64p =>
 InB 0 2 fun x66i =>
 elemAt x64p x66i 1 fun x66p =>
 ∃ x67 : Option Addr, H7.cell x66p = some (Value.pointer x67) ∧
 FnW Tryz.prog Zht ⟨[(Value.pointer x67), (Value.int .i64 1)]⟩ H7 fun x68v H8 =>
 ∃ x68 : Int, x68v = (Value.int .i64 x68) ∧
 IfB ((x68 : Int) == 3)
 (NilP x7 fun x73p =>
 InB 1 2 fun x75i =>
 elemAt x73p x75i 1 fun x75p =>
 ∃ x76 : Option Addr, H8.cell x75p = some (Value.pointer x76) ∧
 FnW Tryz.prog Zht ⟨[(Value.pointer x76), (Value.int .i64 1)]⟩ H8 fun x77v H9 =>
 ∃ x77 : Int, x77v = (Value.int .i64 x77) ∧
 R (Value.bool ((x77 : Int) == 3)) H9)
 (R (Value.bool false) H8))
 (R (Value.bool false) H7))
 (R (Value.bool false) H7))
 (R (Value.bool false) H7))
 (R (Value.bool false) H7))
 (R (Value.bool false) H7))
 (R (Value.bool false) H7))
theorem Zbup  (H : Heap) (R : Value -> Heap -> Prop) : Zyi  H R = Zc Tryz.prog Zbfo (Zb Tryz.f6) (env0 []) H (RetW Tryz.prog Tryz.f6.results.toList R) := by kernel_rfl
theorem Zciz  {H : Heap} {R : Value -> Heap -> Prop} (h : Zyi  H fun v H1 => ∀ H2, Shut H H1 H2 -> R v H2) : FnW Tryz.prog Zsj ⟨[]⟩ H R := FnW.of_code Zbvs (by kernel_rfl) (Eq.mp (Zbup  H _) h)
def Zbhq : Plan := ⟨[], [], [], []⟩
theorem Zbsg : Known Tryz.prog Zki Tryz.f7 Zbhq (Zb Tryz.f7) := by refine ⟨Tryz.func7, ?_, ?_, ?_, ?_, ?_⟩ <;> kernel_rfl
def Zto (me0 : Int) (seed1 : Int) (H : Heap) (R : Value -> Heap -> Prop) : Prop :=
 MkW Tryz.prog Zfe H fun x7v H1 =>
 MkW Tryz.prog Zel H1 fun x8v H2 =>
 NewW H2 (Obj.cells ⟨[(Value.int .u32 me0), (Value.int .u32 seed1), (Value.slice none 0 0), x7v, x8v, (Value.int .i64 0), (Value.int .i64 0)]⟩ Zug) fun x10b H3 =>
 R (Value.pointer (some ⟨x10b, 0, none⟩)) H3
theorem Zcjv (me0 : Int) (seed1 : Int) (H : Heap) (R : Value -> Heap -> Prop) : Zto me0 seed1 H R = Zc Tryz.prog Zbhq (Zb Tryz.f7) (env0 [(Value.int .u32 me0), (Value.int .u32 seed1)]) H (RetW Tryz.prog Tryz.f7.results.toList R) := by kernel_rfl
theorem Zbyt (me0 : Int) (seed1 : Int) {H : Heap} {R : Value -> Heap -> Prop} (h : Zto me0 seed1 H fun v H1 => ∀ H2, Shut H H1 H2 -> R v H2) : FnW Tryz.prog Zki ⟨[(Value.int .u32 me0), (Value.int .u32 seed1)]⟩ H R := FnW.of_code Zbsg (by kernel_rfl) (Eq.mp (Zcjv me0 seed1 H _) h)
def Zben : Plan := ⟨[(12, [0, 1, 2, 3, 4, 5, 6, 7, 8, 9, 10, 11, 12, 13], [58])], [], [], [(15, ⟨6, [], [0, 1, 2, 7, 8, 9, 11, 3, 4, 5, 10], [12, 13], [14], [10]⟩)]⟩
theorem Zcim : Known Tryz.prog Zjq Tryz.f8 Zben (Zb Tryz.f8) := by refine ⟨Tryz.func8, ?_, ?_, ?_, ?_, ?_⟩ <;> kernel_rfl
def Zue (s0b : Nat) (now1 : Int) (to2 : Int) (n3 : Int) (H : Heap) (R : Value -> Heap -> Prop) : Prop :=
 FnW Tryz.prog Zkb ⟨[(Value.pointer (some ⟨s0b, 0, none⟩)), (Value.int .i64 now1)]⟩ H fun x18v H1 =>
 ∃ x18 : Int, x18v = (Value.int .i64 x18) ∧
 IfB ((x18 : Int) != 0)
 (R (Value.tuple ⟨[(Value.int .i64 0), (Value.slice none 0 0), (Value.int .i64 x18)]⟩) H1)
 (∃ x27 : Int, H1.cell ⟨s0b, 5, none⟩ = some (Value.int .i64 x27) ∧
 (16384 : Int) ≠ 0 ∧
 NewW H1 (Obj.cells ⟨[(Value.int .u32 0), (Value.int .i64 0), (Value.int .i64 0)]⟩ Zeo) fun k12b H2 =>
 Za H2 ⟨k12b, 0, none⟩ (Value.int .u32 to2) fun H3 =>
 Za H3 ⟨k12b, 1, none⟩ (Value.int .i64 n3) fun H4 =>
 Za H4 ⟨k12b, 2, none⟩ (Value.int .i64 (IntKind.wrap .i64 (49152 + (Int.tmod (IntKind.wrap .i64 (x27 + 1)) 16384)))) fun H5 =>
 FnW Tryz.prog Zif ⟨[(Value.int .i64 n3)]⟩ H5 fun x34v H6 =>
 ∃ x34 : Bool, x34v = (Value.bool x34) ∧
 IfB (!x34)
 (R (Value.tuple ⟨[(Value.int .i64 0), (Value.slice none 0 0), (Value.int .i64 2)]⟩) H6)
 (∃ x40 : Value, H6.cell ⟨s0b, 4, none⟩ = some x40 ∧
 SemW Tryz.prog (Builtin.len_ #[Zel] Zde ⟨[x40]⟩) H6 fun x41v H7 =>
 ∃ x41 : Int, x41v = (Value.int .i64 x41) ∧
 IfB (decide ((x41 : Int) ≥ 16))
 (R (Value.tuple ⟨[(Value.int .i64 0), (Value.slice none 0 0), (Value.int .i64 4)]⟩) H7)
 (∃ x47 : Value, H7.cell ⟨s0b, 3, none⟩ = some x47 ∧
 ∃ x48c0 : Int, H7.cell ⟨k12b, 0, none⟩ = some (Value.int .u32 x48c0) ∧ ∃ x48c1 : Int, H7.cell ⟨k12b, 1, none⟩ = some (Value.int .i64 x48c1) ∧ ∃ x48c2 : Int, H7.cell ⟨k12b, 2, none⟩ = some (Value.int .i64 x48c2) ∧ SemW Tryz.prog (Instr.lookup Zfe x47 (Value.agg ⟨[(Value.int .u32 x48c0), (Value.int .i64 x48c1), (Value.int .i64 x48c2)]⟩) false) H7 fun x49v H8 =>
 ∃ x49 : Option Addr, x49v = (Value.pointer x49) ∧
 IfB (!x49.isNone)
 (R (Value.tuple ⟨[(Value.int .i64 0), (Value.slice none 0 0), (Value.int .i64 6)]⟩) H8)
 (Za H8 ⟨s0b, 6, none⟩ (Value.int .i64 now1) fun H9 =>
 ∃ bs : List Nat, (∀ b ∈ bs, ∃ o, H9 b = some o) ∧
 k12b ∈ bs ∧ ∃ x58 : Int, H9.cell ⟨k12b, 2, none⟩ = some (Value.int .i64 x58) ∧
 FnW Tryz.prog Zkt ⟨[(Value.pointer (some ⟨s0b, 0, none⟩))]⟩ H9 fun x61v H10 =>
 ∃ x61 : Int, x61v = (Value.int .u32 x61) ∧
 Ze bs H9 H10 ∧ FnW Tryz.prog Zqz ⟨[(Value.int .i64 now1), (Value.int .i64 x58), (Value.int .i64 n3), (Value.int .u32 x61)]⟩ H10 fun x62v H11 =>
 ∃ x62r0 : Option Addr, ∃ (x62r1a : Option Addr) (x62r1n x62r1c : Nat), ∃ x62r2 : Int, x62v = (Value.tuple ⟨[(Value.pointer x62r0), (Value.slice x62r1a x62r1n x62r1c), (Value.int .i64 x62r2)]⟩) ∧
 Ze bs H9 H11 ∧ IfB ((x62r2 : Int) != 0)
 (R (Value.tuple ⟨[(Value.int .i64 0), (Value.slice none 0 0), (Value.int .i64 x62r2)]⟩) H11)
 (∃ x70c0 : Int, H11.cell ⟨k12b, 0, none⟩ = some (Value.int .u32 x70c0) ∧ ∃ x70c1 : Int, H11.cell ⟨k12b, 1, none⟩ = some (Value.int .i64 x70c1) ∧ ∃ x70c2 : Int, H11.cell ⟨k12b, 2, none⟩ = some (Value.int .i64 x70c2) ∧ FnW Tryz.prog Zkr ⟨[(Value.pointer (some ⟨s0b, 0, none⟩)), (Value.agg ⟨[(Value.int .u32 x70c0), (Value.int .i64 x70c1), (Value.int .i64 x70c2)]⟩), (Value.pointer x62r0)]⟩ H11 fun x72v H12 =>
 ∃ x72 : Option Addr, x72v = (Value.pointer x72) ∧
 NilP x72 fun x73p =>
 (∃ x75 : Int, H12.cell ⟨x73p.block, x73p.off + 3, none⟩ = some (Value.int .i64 x75) ∧
 FnW Tryz.prog Zdt ⟨[(Value.pointer (some ⟨s0b, 0, none⟩)), (Value.int .u32 to2), (Value.slice x62r1a x62r1n x62r1c)]⟩ H12 fun x79v H13 =>
 ∃ (x79a : Option Addr) (x79n x79c : Nat), x79v = (Value.slice x79a x79n x79c) ∧
 R (Value.tuple ⟨[(Value.int .i64 x75), (Value.slice x79a x79n x79c), (Value.int .i64 x62r2)]⟩) H13) ∧
 (FnW Tryz.prog Zdt ⟨[(Value.pointer (some ⟨s0b, 0, none⟩)), (Value.int .u32 to2), (Value.slice x62r1a x62r1n x62r1c)]⟩ H12 fun x79v_1 H14 =>
 ∃ (x79a_1 : Option Addr) (x79n_1 x79c_1 : Nat), x79v_1 = (Value.slice x79a_1 x79n_1 x79c_1) ∧
 ∃ x75_1 : Int, H14.cell ⟨x73p.block, x73p.off + 3, none⟩ = some (Value.int .i64 x75_1) ∧
 R (Value.tuple ⟨[(Value.int .i64 x75_1), (Value.slice x79a_1 x79n_1 x79c_1), (Value.int .i64 x62r2)]⟩) H14))))))
theorem Zccj (s0b : Nat) (now1 : Int) (to2 : Int) (n3 : Int) (H : Heap) (R : Value -> Heap -> Prop) : Zue s0b now1 to2 n3 H R = Zc Tryz.prog Zben (Zb Tryz.f8) (env0 [(Value.pointer (some ⟨s0b, 0, none⟩)), (Value.int .i64 now1), (Value.int .u32 to2), (Value.int .i64 n3)]) H (RetW Tryz.prog Tryz.f8.results.toList R) := by kernel_rfl
theorem Zcbw (s0b : Nat) (now1 : Int) (to2 : Int) (n3 : Int) {H : Heap} {R : Value -> Heap -> Prop} (h : Zue s0b now1 to2 n3 H fun v H1 => ∀ H2, Shut H H1 H2 -> R v H2) : FnW Tryz.prog Zjq ⟨[(Value.pointer (some ⟨s0b, 0, none⟩)), (Value.int .i64 now1), (Value.int .u32 to2), (Value.int .i64 n3)]⟩ H R := FnW.of_code Zcim (by kernel_rfl) (Eq.mp (Zccj s0b now1 to2 n3 H _) h)
def Zbkq : Plan := ⟨[(13, [0, 1, 2, 4, 5, 6, 3, 7, 8, 9, 10], [73])], [], [], []⟩
theorem Zcgg : Known Tryz.prog Zmq Tryz.f12 Zbkq (Zb Tryz.f12) := by refine ⟨Tryz.func12, ?_, ?_, ?_, ?_, ?_⟩ <;> kernel_rfl
def Zvx (s0b : Nat) (now1 : Int) (from2 : Int) (b3a : Option Addr) (b3n : Nat) (b3c : Nat) (H : Heap) (R : Value -> Heap -> Prop) : Prop :=
 FnW Tryz.prog Zkb ⟨[(Value.pointer (some ⟨s0b, 0, none⟩)), (Value.int .i64 now1)]⟩ H fun x21v H1 =>
 ∃ x21 : Int, x21v = (Value.int .i64 x21) ∧
 IfB ((x21 : Int) != 0)
 (R (Value.tuple ⟨[(Value.slice none 0 0), (Value.slice none 0 0), (Value.int .i64 x21)]⟩) H1)
 (Za H1 ⟨s0b, 6, none⟩ (Value.int .i64 now1) fun H2 =>
 ∃ x34 : Int, H2.cell ⟨s0b, 0, none⟩ = some (Value.int .u32 x34) ∧
 FnW Tryz.prog Zmz ⟨[(Value.int .u32 from2), (Value.int .u32 x34), (Value.slice b3a b3n b3c)]⟩ H2 fun x36v H3 =>
 ∃ x36r0c0 : Int, ∃ x36r0c1 : Int, ∃ x36r0c2 : Int, ∃ x36r0c3 : Int, ∃ x36r0c4 : Int, ∃ x36r0c5 : Int, ∃ x36r0c6 : Int, ∃ x36r0c7 : Int, ∃ (x36r0c8a : Option Addr) (x36r0c8n x36r0c8c : Nat), ∃ x36r1 : Int, x36v = (Value.tuple ⟨[(Value.agg ⟨[(Value.int .i64 x36r0c0), (Value.int .i64 x36r0c1), (Value.int .u32 x36r0c2), (Value.int .u32 x36r0c3), (Value.int .i64 x36r0c4), (Value.int .i64 x36r0c5), (Value.int .i64 x36r0c6), (Value.int .i64 x36r0c7), (Value.slice x36r0c8a x36r0c8n x36r0c8c)]⟩), (Value.int .i64 x36r1)]⟩) ∧
 NewW H3 (Obj.cells ⟨[(Value.int .i64 0), (Value.int .i64 0), (Value.int .u32 0), (Value.int .u32 0), (Value.int .i64 0), (Value.int .i64 0), (Value.int .i64 0), (Value.int .i64 0), (Value.slice none 0 0)]⟩ Zl) fun x12b H4 =>
 Za H4 ⟨x12b, 0, none⟩ (Value.int .i64 x36r0c0) fun H5 =>
 Za H5 ⟨x12b, 1, none⟩ (Value.int .i64 x36r0c1) fun H6 =>
 Za H6 ⟨x12b, 2, none⟩ (Value.int .u32 x36r0c2) fun H7 =>
 Za H7 ⟨x12b, 3, none⟩ (Value.int .u32 x36r0c3) fun H8 =>
 Za H8 ⟨x12b, 4, none⟩ (Value.int .i64 x36r0c4) fun H9 =>
 Za H9 ⟨x12b, 5, none⟩ (Value.int .i64 x36r0c5) fun H10 =>
 Za H10 ⟨x12b, 6, none⟩ (Value.int .i64 x36r0c6) fun H11 =>
 Za H11 ⟨x12b, 7, none⟩ (Value.int .i64 x36r0c7) fun H12 =>
 Za H12 ⟨x12b, 8, none⟩ (Value.slice x36r0c8a x36r0c8n x36r0c8c) fun H13 =>
 IfB ((x36r1 : Int) != 0)
 (R (Value.tuple ⟨[(Value.slice none 0 0), (Value.slice none 0 0), (Value.int .i64 0)]⟩) H13)
 (∃ x43 : Int, H13.cell ⟨x12b, 0, none⟩ = some (Value.int .i64 x43) ∧
 ∃ x45 : Int, H13.cell ⟨x12b, 1, none⟩ = some (Value.int .i64 x45) ∧
 NewW H13 (Obj.cells ⟨[(Value.int .u32 0), (Value.int .i64 0), (Value.int .i64 0)]⟩ Zeo) fun k14b H14 =>
 Za H14 ⟨k14b, 0, none⟩ (Value.int .u32 from2) fun H15 =>
 Za H15 ⟨k14b, 1, none⟩ (Value.int .i64 x43) fun H16 =>
 Za H16 ⟨k14b, 2, none⟩ (Value.int .i64 x45) fun H17 =>
 ∃ x50 : Value, H17.cell ⟨s0b, 3, none⟩ = some x50 ∧
 ∃ x51c0 : Int, H17.cell ⟨k14b, 0, none⟩ = some (Value.int .u32 x51c0) ∧ ∃ x51c1 : Int, H17.cell ⟨k14b, 1, none⟩ = some (Value.int .i64 x51c1) ∧ ∃ x51c2 : Int, H17.cell ⟨k14b, 2, none⟩ = some (Value.int .i64 x51c2) ∧ SemW Tryz.prog (Instr.lookup Zfe x50 (Value.agg ⟨[(Value.int .u32 x51c0), (Value.int .i64 x51c1), (Value.int .i64 x51c2)]⟩) false) H17 fun x52v H18 =>
 ∃ x52 : Option Addr, x52v = (Value.pointer x52) ∧
 IfB (!x52.isNone)
 (FnW Tryz.prog Zkz ⟨[(Value.pointer x52)]⟩ H18 fun x56v H19 =>
 ∃ x56c0 : Int, ∃ x56c1 : Int, x56v = (Value.agg ⟨[(Value.int .i64 x56c0), (Value.int .i64 x56c1)]⟩) ∧
 NewW H19 (Obj.cells ⟨[(Value.int .i64 0), (Value.int .i64 0)]⟩ Zfa) fun was16b H20 =>
 Za H20 ⟨was16b, 0, none⟩ (Value.int .i64 x56c0) fun H21 =>
 Za H21 ⟨was16b, 1, none⟩ (Value.int .i64 x56c1) fun H22 =>
 NilP x52 fun x59p =>
 ∃ x61 : Option Addr, H22.cell ⟨x59p.block, x59p.off + 4, none⟩ = some (Value.pointer x61) ∧
 ∃ x63c0 : Int, H22.cell ⟨x12b, 0, none⟩ = some (Value.int .i64 x63c0) ∧ ∃ x63c1 : Int, H22.cell ⟨x12b, 1, none⟩ = some (Value.int .i64 x63c1) ∧ ∃ x63c2 : Int, H22.cell ⟨x12b, 2, none⟩ = some (Value.int .u32 x63c2) ∧ ∃ x63c3 : Int, H22.cell ⟨x12b, 3, none⟩ = some (Value.int .u32 x63c3) ∧ ∃ x63c4 : Int, H22.cell ⟨x12b, 4, none⟩ = some (Value.int .i64 x63c4) ∧ ∃ x63c5 : Int, H22.cell ⟨x12b, 5, none⟩ = some (Value.int .i64 x63c5) ∧ ∃ x63c6 : Int, H22.cell ⟨x12b, 6, none⟩ = some (Value.int .i64 x63c6) ∧ ∃ x63c7 : Int, H22.cell ⟨x12b, 7, none⟩ = some (Value.int .i64 x63c7) ∧ ∃ (x63c8a : Option Addr) (x63c8n x63c8c : Nat), H22.cell ⟨x12b, 8, none⟩ = some (Value.slice x63c8a x63c8n x63c8c) ∧ FnW Tryz.prog Zot ⟨[(Value.pointer x61), (Value.int .i64 now1), (Value.agg ⟨[(Value.int .i64 x63c0), (Value.int .i64 x63c1), (Value.int .u32 x63c2), (Value.int .u32 x63c3), (Value.int .i64 x63c4), (Value.int .i64 x63c5), (Value.int .i64 x63c6), (Value.int .i64 x63c7), (Value.slice x63c8a x63c8n x63c8c)]⟩)]⟩ H22 fun x64v H23 =>
 ∃ (x64r0a : Option Addr) (x64r0n x64r0c : Nat), ∃ x64r1 : Int, x64v = (Value.tuple ⟨[(Value.slice x64r0a x64r0n x64r0c), (Value.int .i64 x64r1)]⟩) ∧
 ∃ bs : List Nat, (∀ b ∈ bs, ∃ o, H23 b = some o) ∧
 was16b ∈ bs ∧ ∃ x73c0 : Int, H23.cell ⟨was16b, 0, none⟩ = some (Value.int .i64 x73c0) ∧ ∃ x73c1 : Int, H23.cell ⟨was16b, 1, none⟩ = some (Value.int .i64 x73c1) ∧ FnW Tryz.prog Zdt ⟨[(Value.pointer (some ⟨s0b, 0, none⟩)), (Value.int .u32 from2), (Value.slice x64r0a x64r0n x64r0c)]⟩ H23 fun x70v H24 =>
 ∃ (x70a : Option Addr) (x70n x70c : Nat), x70v = (Value.slice x70a x70n x70c) ∧
 Ze bs H23 H24 ∧ FnW Tryz.prog Zpc ⟨[(Value.pointer (some ⟨s0b, 0, none⟩)), (Value.pointer x52), (Value.agg ⟨[(Value.int .i64 x73c0), (Value.int .i64 x73c1)]⟩)]⟩ H24 fun x74v H25 =>
 ∃ (x74a : Option Addr) (x74n x74c : Nat), x74v = (Value.slice x74a x74n x74c) ∧
 R (Value.tuple ⟨[(Value.slice x70a x70n x70c), (Value.slice x74a x74n x74c), (Value.int .i64 0)]⟩) H25)
 (∃ x76c0 : Int, H18.cell ⟨k14b, 0, none⟩ = some (Value.int .u32 x76c0) ∧ ∃ x76c1 : Int, H18.cell ⟨k14b, 1, none⟩ = some (Value.int .i64 x76c1) ∧ ∃ x76c2 : Int, H18.cell ⟨k14b, 2, none⟩ = some (Value.int .i64 x76c2) ∧ ∃ x77c0 : Int, H18.cell ⟨x12b, 0, none⟩ = some (Value.int .i64 x77c0) ∧ ∃ x77c1 : Int, H18.cell ⟨x12b, 1, none⟩ = some (Value.int .i64 x77c1) ∧ ∃ x77c2 : Int, H18.cell ⟨x12b, 2, none⟩ = some (Value.int .u32 x77c2) ∧ ∃ x77c3 : Int, H18.cell ⟨x12b, 3, none⟩ = some (Value.int .u32 x77c3) ∧ ∃ x77c4 : Int, H18.cell ⟨x12b, 4, none⟩ = some (Value.int .i64 x77c4) ∧ ∃ x77c5 : Int, H18.cell ⟨x12b, 5, none⟩ = some (Value.int .i64 x77c5) ∧ ∃ x77c6 : Int, H18.cell ⟨x12b, 6, none⟩ = some (Value.int .i64 x77c6) ∧ ∃ x77c7 : Int, H18.cell ⟨x12b, 7, none⟩ = some (Value.int .i64 x77c7) ∧ ∃ (x77c8a : Option Addr) (x77c8n x77c8c : Nat), H18.cell ⟨x12b, 8, none⟩ = some (Value.slice x77c8a x77c8n x77c8c) ∧ FnW Tryz.prog Zrv ⟨[(Value.pointer (some ⟨s0b, 0, none⟩)), (Value.agg ⟨[(Value.int .u32 x76c0), (Value.int .i64 x76c1), (Value.int .i64 x76c2)]⟩), (Value.agg ⟨[(Value.int .i64 x77c0), (Value.int .i64 x77c1), (Value.int .u32 x77c2), (Value.int .u32 x77c3), (Value.int .i64 x77c4), (Value.int .i64 x77c5), (Value.int .i64 x77c6), (Value.int .i64 x77c7), (Value.slice x77c8a x77c8n x77c8c)]⟩)]⟩ H18 fun x78v H26 =>
 ∃ (x78a : Option Addr) (x78n x78c : Nat), x78v = (Value.slice x78a x78n x78c) ∧
 R (Value.tuple ⟨[(Value.slice x78a x78n x78c), (Value.slice none 0 0), (Value.int .i64 0)]⟩) H26)))
theorem Zcde (s0b : Nat) (now1 : Int) (from2 : Int) (b3a : Option Addr) (b3n : Nat) (b3c : Nat) (H : Heap) (R : Value -> Heap -> Prop) : Zvx s0b now1 from2 b3a b3n b3c H R = Zc Tryz.prog Zbkq (Zb Tryz.f12) (env0 [(Value.pointer (some ⟨s0b, 0, none⟩)), (Value.int .i64 now1), (Value.int .u32 from2), (Value.slice b3a b3n b3c)]) H (RetW Tryz.prog Tryz.f12.results.toList R) := by kernel_rfl
theorem Zceq (s0b : Nat) (now1 : Int) (from2 : Int) (b3a : Option Addr) (b3n : Nat) (b3c : Nat) {H : Heap} {R : Value -> Heap -> Prop} (h : Zvx s0b now1 from2 b3a b3n b3c H fun v H1 => ∀ H2, Shut H H1 H2 -> R v H2) : FnW Tryz.prog Zmq ⟨[(Value.pointer (some ⟨s0b, 0, none⟩)), (Value.int .i64 now1), (Value.int .u32 from2), (Value.slice b3a b3n b3c)]⟩ H R := FnW.of_code Zcgg (by kernel_rfl) (Eq.mp (Zcde s0b now1 from2 b3a b3n b3c H _) h)
def Zbeg : Plan := ⟨[], [], [], []⟩
theorem Zbuy : Known Tryz.prog Zht Tryz.f15 Zbeg (Zb Tryz.f15) := by refine ⟨Tryz.func15, ?_, ?_, ?_, ?_, ?_⟩ <;> kernel_rfl
def Zru (s0b : Nat) (id1 : Int) (x16 : Bool) (H2 : Heap) (R : Value -> Heap -> Prop) : Prop :=
 IfB x16
 (R (Value.int .i64 0) H2)
 (∃ x20 : Value, H2.cell ⟨s0b, 4, none⟩ = some x20 ∧
 SemW Tryz.prog (Instr.lookup Zel x20 (Value.int .i64 id1) false) H2 fun x22v H3 =>
 ∃ x22 : Option Addr, x22v = (Value.pointer x22) ∧
 NilP x22 fun x23p =>
 ∃ x25 : Option Addr, H3.cell ⟨x23p.block, x23p.off + 4, none⟩ = some (Value.pointer x25) ∧
 FnW Tryz.prog Zkh ⟨[(Value.pointer x25)]⟩ H3 fun x26v H4 =>
 ∃ x26 : Int, x26v = (Value.int .i64 x26) ∧
 R (Value.int .i64 x26) H4)
def Zum (s0b : Nat) (id1 : Int) (H : Heap) (R : Value -> Heap -> Prop) : Prop :=
 FnW Tryz.prog Zjp ⟨[(Value.pointer (some ⟨s0b, 0, none⟩))]⟩ H fun x6v H1 =>
 ∃ x6 : Bool, x6v = (Value.bool x6) ∧
 IfB (!x6)
 (Zru s0b id1 true H1 R)
 (∃ x12 : Value, H1.cell ⟨s0b, 4, none⟩ = some x12 ∧
 SemW Tryz.prog (Instr.lookup Zel x12 (Value.int .i64 id1) false) H1 fun x14v H5 =>
 ∃ x14 : Option Addr, x14v = (Value.pointer x14) ∧
 Zru s0b id1 x14.isNone H5 R)
theorem Zbvi (s0b : Nat) (id1 : Int) (H : Heap) (R : Value -> Heap -> Prop) : Zum s0b id1 H R = Zc Tryz.prog Zbeg (Zb Tryz.f15) (env0 [(Value.pointer (some ⟨s0b, 0, none⟩)), (Value.int .i64 id1)]) H (RetW Tryz.prog Tryz.f15.results.toList R) := by kernel_rfl
theorem Zcgr (s0b : Nat) (id1 : Int) {H : Heap} {R : Value -> Heap -> Prop} (h : Zum s0b id1 H fun v H1 => ∀ H2, Shut H H1 H2 -> R v H2) : FnW Tryz.prog Zht ⟨[(Value.pointer (some ⟨s0b, 0, none⟩)), (Value.int .i64 id1)]⟩ H R := FnW.of_code Zbuy (by kernel_rfl) (Eq.mp (Zbvi s0b id1 H _) h)
def Zbif : Plan := ⟨[], [], [], []⟩
theorem Zcda : Known Tryz.prog Zmg Tryz.f16 Zbif (Zb Tryz.f16) := by refine ⟨Tryz.func16, ?_, ?_, ?_, ?_, ?_⟩ <;> kernel_rfl
def Zxa (a0a : Option Addr) (a0n : Nat) (a0c : Nat) (b1a : Option Addr) (b1n : Nat) (b1c : Nat) (H : Heap) (R : Value -> Heap -> Prop) : Prop :=
 SemW Tryz.prog (convert Zi Zblq (Value.slice a0a a0n a0c)) H fun x6v H1 =>
 ∃ x6 : ByteArray, x6v = (Value.string x6) ∧
 SemW Tryz.prog (convert Zi Zblq (Value.slice b1a b1n b1c)) H1 fun x8v H2 =>
 ∃ x8 : ByteArray, x8v = (Value.string x8) ∧
 R (Value.bool (x6.toList == x8.toList)) H2
theorem Zbve (a0a : Option Addr) (a0n : Nat) (a0c : Nat) (b1a : Option Addr) (b1n : Nat) (b1c : Nat) (H : Heap) (R : Value -> Heap -> Prop) : Zxa a0a a0n a0c b1a b1n b1c H R = Zc Tryz.prog Zbif (Zb Tryz.f16) (env0 [(Value.slice a0a a0n a0c), (Value.slice b1a b1n b1c)]) H (RetW Tryz.prog Tryz.f16.results.toList R) := by kernel_rfl
theorem Zbvd (a0a : Option Addr) (a0n : Nat) (a0c : Nat) (b1a : Option Addr) (b1n : Nat) (b1c : Nat) {H : Heap} {R : Value -> Heap -> Prop} (h : Zxa a0a a0n a0c b1a b1n b1c H fun v H1 => ∀ H2, Shut H H1 H2 -> R v H2) : FnW Tryz.prog Zmg ⟨[(Value.slice a0a a0n a0c), (Value.slice b1a b1n b1c)]⟩ H R := FnW.of_code Zcda (by kernel_rfl) (Eq.mp (Zbve a0a a0n a0c b1a b1n b1c H _) h)
def Zbfb : Plan := ⟨[], [], [], []⟩
theorem Zbqr : Known Tryz.prog Zkd Tryz.f17 Zbfb (Zb Tryz.f17) := by refine ⟨Tryz.func17, ?_, ?_, ?_, ?_, ?_⟩ <;> kernel_rfl
def Zye (a0 : Int) (b1 : Int) (H : Heap) (R : Value -> Heap -> Prop) : Prop :=
 FnW Tryz.prog Zfw ⟨[(Value.int .i64 0)]⟩ H fun x6v H1 =>
 ∃ x6 : Int, x6v = (Value.int .u32 x6) ∧
 FnW Tryz.prog Zki ⟨[(Value.int .u32 x6), (Value.int .u32 a0)]⟩ H1 fun x8v H2 =>
 ∃ x8 : Option Addr, x8v = (Value.pointer x8) ∧
 FnW Tryz.prog Zfw ⟨[(Value.int .i64 1)]⟩ H2 fun x9v H3 =>
 ∃ x9 : Int, x9v = (Value.int .u32 x9) ∧
 FnW Tryz.prog Zki ⟨[(Value.int .u32 x9), (Value.int .u32 b1)]⟩ H3 fun x11v H4 =>
 ∃ x11 : Option Addr, x11v = (Value.pointer x11) ∧
 NewW H4 (Obj.cells ⟨[(Value.pointer x8), (Value.pointer x11), (Value.slice none 0 0), (Value.slice none 0 0)]⟩ Zbhc) fun x14b H5 =>
 InB 1 2 fun x18i =>
 ∃ x19 : Option Addr, H5.cell ⟨x14b, 0 + x18i * 1, none⟩ = some (Value.pointer x19) ∧
 FnW Tryz.prog Zpg ⟨[(Value.pointer x19), (Value.int .i64 179)]⟩ H5 fun x20v H6 =>
 ∃ x20 : Int, x20v = (Value.int .i64 x20) ∧
 IfB ((x20 : Int) != 0)
 (R (Value.pointer none) H6)
 (R (Value.pointer (some ⟨x14b, 0, none⟩)) H6)
theorem Zcaf (a0 : Int) (b1 : Int) (H : Heap) (R : Value -> Heap -> Prop) : Zye a0 b1 H R = Zc Tryz.prog Zbfb (Zb Tryz.f17) (env0 [(Value.int .u32 a0), (Value.int .u32 b1)]) H (RetW Tryz.prog Tryz.f17.results.toList R) := by kernel_rfl
theorem Zcjm (a0 : Int) (b1 : Int) {H : Heap} {R : Value -> Heap -> Prop} (h : Zye a0 b1 H fun v H1 => ∀ H2, Shut H H1 H2 -> R v H2) : FnW Tryz.prog Zkd ⟨[(Value.int .u32 a0), (Value.int .u32 b1)]⟩ H R := FnW.of_code Zbqr (by kernel_rfl) (Eq.mp (Zcaf a0 b1 H _) h)
def Zbgu : Plan := ⟨[], [], [], []⟩
theorem Zbzv : Known Tryz.prog Zfw Tryz.f18 Zbgu (Zb Tryz.f18) := by refine ⟨Tryz.func18, ?_, ?_, ?_, ?_, ?_⟩ <;> kernel_rfl
def Zbad (k0 : Int) (H : Heap) (R : Value -> Heap -> Prop) : Prop :=
 R (Value.int .u32 (IntKind.wrap .u32 (IntKind.wrap .i64 (10 + k0)))) H
theorem Zcfk (k0 : Int) (H : Heap) (R : Value -> Heap -> Prop) : Zbad k0 H R = Zc Tryz.prog Zbgu (Zb Tryz.f18) (env0 [(Value.int .i64 k0)]) H (RetW Tryz.prog Tryz.f18.results.toList R) := by kernel_rfl
theorem Zcbr (k0 : Int) {H : Heap} {R : Value -> Heap -> Prop} (h : Zbad k0 H fun v H1 => ∀ H2, Shut H H1 H2 -> R v H2) : FnW Tryz.prog Zfw ⟨[(Value.int .i64 k0)]⟩ H R := FnW.of_code Zbzv (by kernel_rfl) (Eq.mp (Zcfk k0 H _) h)
def Zbko : Plan := ⟨[(3, [0, 1, 2, 3, 4, 5, 6, 7, 8], [17]), (4, [0, 1, 2, 3, 4, 5, 6, 7, 8, 9, 10, 11, 12, 13, 14, 17, 18, 15, 16, 19, 20], [])], [(1, [6], [.int .i64], [0, 1, 2])], [], []⟩
theorem Zbtp : Known Tryz.prog Zeq Tryz.f19 Zbko (Zb Tryz.f19) := by refine ⟨Tryz.func19, ?_, ?_, ?_, ?_, ?_⟩ <;> kernel_rfl
def Zkl (l0b : Nat) (k1 : Int) (o2a : Option Addr) (o2n : Nat) (o2c : Nat) (i6 : Int) (next1 : (Int × Unit) -> Heap -> Prop) (H6 : Heap) (R : Value -> Heap -> Prop) : Prop :=
 next1 ((IntKind.wrap .i64 (i6 + 1)), ()) H6
def Zbiv (l0b : Nat) (k1 : Int) (o2a : Option Addr) (o2n : Nat) (o2c : Nat) (i6 : Int) (H1 : Heap) (next1 : (Int × Unit) -> Heap -> Prop) (R : Value -> Heap -> Prop) : Prop :=
 IfB (decide ((i6 : Int) < (o2n : Int)))
 (∃ bs : List Nat, (∀ b ∈ bs, ∃ o, H1 b = some o) ∧
 NilP o2a fun x15q =>
 InB i6 o2n fun x15i =>
 elemAt x15q x15i 2 fun x15p =>
 x15p.block ∈ bs ∧ ∃ x17 : Int, H1.cell x15p = some (Value.int .u32 x17) ∧
 FnW Tryz.prog Zfw ⟨[(Value.int .i64 (IntKind.wrap .i64 (1 - k1)))]⟩ H1 fun x20v H2 =>
 ∃ x20 : Int, x20v = (Value.int .u32 x20) ∧
 Ze bs H1 H2 ∧ IfB ((x17 : Int) == x20)
 (InB (IntKind.wrap .i64 (1 - k1)) 2 fun x30i =>
 ∃ (x31a : Option Addr) (x31n x31c : Nat), H2.cell ⟨l0b, 2 + x30i * 1, none⟩ = some (Value.slice x31a x31n x31c) ∧
 NilP o2a fun x34q =>
 InB i6 o2n fun x34i =>
 elemAt x34q x34i 2 fun x34p =>
 ∃ (x36a : Option Addr) (x36n x36c : Nat), H2.cell ⟨x34p.block, x34p.off + 1, none⟩ = some (Value.slice x36a x36n x36c) ∧
 NewW H2 (Obj.cells ⟨[(Value.slice x36a x36n x36c)]⟩ Zi) fun x37b H3 =>
 AppW Tryz.prog #[Zie, Zie] Zie [(Value.slice x31a x31n x31c), (Value.slice (some ⟨x37b, 0, none⟩) 1 1)] H3 fun x38v H4 =>
 ∃ (x38a : Option Addr) (x38n x38c : Nat), x38v = (Value.slice x38a x38n x38c) ∧
 InB (IntKind.wrap .i64 (1 - k1)) 2 fun x41i =>
 Za H4 ⟨l0b, 2 + x41i * 1, none⟩ (Value.slice x38a x38n x38c) fun H5 =>
 Zkl l0b k1 o2a o2n o2c i6 next1 H5 R)
 (Zkl l0b k1 o2a o2n o2c i6 next1 H2 R))
 (R (Value.tuple ⟨[]⟩) H1)
def Zwk (l0b : Nat) (k1 : Int) (o2a : Option Addr) (o2n : Nat) (o2c : Nat) (H : Heap) (R : Value -> Heap -> Prop) : Prop :=
 Zci (Int × Unit) (0, ()) H fun x H next => ∀ _g : Env, Zbiv l0b k1 o2a o2n o2c x.1 H next R
theorem Zcfr (l0b : Nat) (k1 : Int) (o2a : Option Addr) (o2n : Nat) (o2c : Nat) (H : Heap) (R : Value -> Heap -> Prop) : Zwk l0b k1 o2a o2n o2c H R = Zc Tryz.prog Zbko (Zb Tryz.f19) (env0 [(Value.pointer (some ⟨l0b, 0, none⟩)), (Value.int .i64 k1), (Value.slice o2a o2n o2c)]) H (RetW Tryz.prog Tryz.f19.results.toList R) := by kernel_rfl
theorem Zbso (l0b : Nat) (k1 : Int) (o2a : Option Addr) (o2n : Nat) (o2c : Nat) {H : Heap} {R : Value -> Heap -> Prop} (h : Zwk l0b k1 o2a o2n o2c H fun v H1 => ∀ H2, Shut H H1 H2 -> R v H2) : FnW Tryz.prog Zeq ⟨[(Value.pointer (some ⟨l0b, 0, none⟩)), (Value.int .i64 k1), (Value.slice o2a o2n o2c)]⟩ H R := FnW.of_code Zbtp (by kernel_rfl) (Eq.mp (Zcfr l0b k1 o2a o2n o2c H _) h)
def Zbeu : Plan := ⟨[(7, [0, 1, 2, 3, 4, 5, 6, 7, 8, 10, 11, 12, 13, 9, 14, 15, 16, 17, 18, 19, 20, 21], [37, 45])], [(5, [7, 9], [.slice, .int .i64], [0, 1, 2, 8])], [], []⟩
theorem Zcat : Known Tryz.prog Zcn Tryz.f20 Zbeu (Zb Tryz.f20) := by refine ⟨Tryz.func20, ?_, ?_, ?_, ?_, ?_⟩ <;> kernel_rfl
def Zbcz (l0b : Nat) (now1 : Int) (k2 : Int) (x19a : Option Addr) (x19n : Nat) (x19c : Nat) (all7a : Option Addr) (all7n : Nat) (all7c : Nat) (i9 : Int) (H3 : Heap) (next5 : ((Option Addr × Nat × Nat) × Int × Unit) -> Heap -> Prop) (R : Value -> Heap -> Prop) : Prop :=
 IfB (decide ((i9 : Int) < (x19n : Int)))
 (∃ bs : List Nat, (∀ b ∈ bs, ∃ o, H3 b = some o) ∧
 InB k2 2 fun x36i =>
 l0b ∈ bs ∧ ∃ x37 : Option Addr, H3.cell ⟨l0b, 0 + x36i * 1, none⟩ = some (Value.pointer x37) ∧
 NilP x19a fun x44q =>
 InB i9 x19n fun x44i =>
 elemAt x44q x44i 1 fun x44p =>
 x44p.block ∈ bs ∧ ∃ (x45a : Option Addr) (x45n x45c : Nat), H3.cell x44p = some (Value.slice x45a x45n x45c) ∧
 FnW Tryz.prog Zfw ⟨[(Value.int .i64 (IntKind.wrap .i64 (1 - k2)))]⟩ H3 fun x41v H4 =>
 ∃ x41 : Int, x41v = (Value.int .u32 x41) ∧
 Ze bs H3 H4 ∧ FnW Tryz.prog Zmq ⟨[(Value.pointer x37), (Value.int .i64 now1), (Value.int .u32 x41), (Value.slice x45a x45n x45c)]⟩ H4 fun x46v H5 =>
 ∃ (x46r0a : Option Addr) (x46r0n x46r0c : Nat), ∃ (x46r1a : Option Addr) (x46r1n x46r1c : Nat), ∃ x46r2 : Int, x46v = (Value.tuple ⟨[(Value.slice x46r0a x46r0n x46r0c), (Value.slice x46r1a x46r1n x46r1c), (Value.int .i64 x46r2)]⟩) ∧
 Ze bs H3 H5 ∧ FnW Tryz.prog Zeq ⟨[(Value.pointer (some ⟨l0b, 0, none⟩)), (Value.int .i64 k2), (Value.slice x46r0a x46r0n x46r0c)]⟩ H5 fun x53v H6 =>
 x53v = (Value.tuple ⟨[]⟩) ∧
 AppW Tryz.prog #[Zbq, Zbq] Zbq [(Value.slice all7a all7n all7c), (Value.slice x46r1a x46r1n x46r1c)] H6 fun x56v H7 =>
 ∃ (x56a : Option Addr) (x56n x56c : Nat), x56v = (Value.slice x56a x56n x56c) ∧
 next5 ((x56a, x56n, x56c), ((IntKind.wrap .i64 (i9 + 1)), ())) H7)
 (R (Value.slice all7a all7n all7c) H3)
def Zwd (l0b : Nat) (now1 : Int) (k2 : Int) (H : Heap) (R : Value -> Heap -> Prop) : Prop :=
 NewW H (Obj.cells ⟨[]⟩ Zbe) fun x13b H1 =>
 InB k2 2 fun x18i =>
 ∃ (x19a : Option Addr) (x19n x19c : Nat), H1.cell ⟨l0b, 2 + x18i * 1, none⟩ = some (Value.slice x19a x19n x19c) ∧
 InB k2 2 fun x24i =>
 Za H1 ⟨l0b, 2 + x24i * 1, none⟩ (Value.slice none 0 0) fun H2 =>
 Zci ((Option Addr × Nat × Nat) × Int × Unit) (((some ⟨x13b, 0, none⟩), 0, 0), (0, ())) H2 fun x H next => ∀ _g : Env, Zbcz l0b now1 k2 x19a x19n x19c x.1.1 x.1.2.1 x.1.2.2 x.2.1 H next R
theorem Zbud (l0b : Nat) (now1 : Int) (k2 : Int) (H : Heap) (R : Value -> Heap -> Prop) : Zwd l0b now1 k2 H R = Zc Tryz.prog Zbeu (Zb Tryz.f20) (env0 [(Value.pointer (some ⟨l0b, 0, none⟩)), (Value.int .i64 now1), (Value.int .i64 k2)]) H (RetW Tryz.prog Tryz.f20.results.toList R) := by kernel_rfl
theorem Zccc (l0b : Nat) (now1 : Int) (k2 : Int) {H : Heap} {R : Value -> Heap -> Prop} (h : Zwd l0b now1 k2 H fun v H1 => ∀ H2, Shut H H1 H2 -> R v H2) : FnW Tryz.prog Zcn ⟨[(Value.pointer (some ⟨l0b, 0, none⟩)), (Value.int .i64 now1), (Value.int .i64 k2)]⟩ H R := FnW.of_code Zcat (by kernel_rfl) (Eq.mp (Zbud l0b now1 k2 H _) h)
def Zbbn : Plan := ⟨[], [], [], []⟩
theorem Zbqi : Known Tryz.prog Zhl Tryz.f21 Zbbn (Zb Tryz.f21) := by refine ⟨Tryz.func21, ?_, ?_, ?_, ?_, ?_⟩ <;> kernel_rfl
def Zta (s0b : Nat) (now1 : Int) (id2 : Int) (b3a : Option Addr) (b3n : Nat) (b3c : Nat) (H : Heap) (R : Value -> Heap -> Prop) : Prop :=
 FnW Tryz.prog Ziu ⟨[(Value.pointer (some ⟨s0b, 0, none⟩)), (Value.int .i64 now1), (Value.int .i64 id2)]⟩ H fun x19v H1 =>
 ∃ x19r0 : Option Addr, ∃ x19r1 : Int, x19v = (Value.tuple ⟨[(Value.pointer x19r0), (Value.int .i64 x19r1)]⟩) ∧
 IfB ((x19r1 : Int) != 0)
 (R (Value.tuple ⟨[(Value.int .i64 0), (Value.slice none 0 0), (Value.int .i64 x19r1)]⟩) H1)
 (NilP x19r0 fun x27p =>
 ∃ x29 : Option Addr, H1.cell ⟨x27p.block, x27p.off + 4, none⟩ = some (Value.pointer x29) ∧
 FnW Tryz.prog Zmx ⟨[(Value.pointer x29), (Value.int .i64 now1), (Value.slice b3a b3n b3c)]⟩ H1 fun x32v H2 =>
 ∃ x32r0 : Int, ∃ (x32r1a : Option Addr) (x32r1n x32r1c : Nat), ∃ x32r2 : Int, x32v = (Value.tuple ⟨[(Value.int .i64 x32r0), (Value.slice x32r1a x32r1n x32r1c), (Value.int .i64 x32r2)]⟩) ∧
 NilP x19r0 fun x39p =>
 ∃ x42 : Int, H2.cell x39p = some (Value.int .u32 x42) ∧
 FnW Tryz.prog Zdt ⟨[(Value.pointer (some ⟨s0b, 0, none⟩)), (Value.int .u32 x42), (Value.slice x32r1a x32r1n x32r1c)]⟩ H2 fun x44v H3 =>
 ∃ (x44a : Option Addr) (x44n x44c : Nat), x44v = (Value.slice x44a x44n x44c) ∧
 R (Value.tuple ⟨[(Value.int .i64 x32r0), (Value.slice x44a x44n x44c), (Value.int .i64 x32r2)]⟩) H3)
theorem Zbqj (s0b : Nat) (now1 : Int) (id2 : Int) (b3a : Option Addr) (b3n : Nat) (b3c : Nat) (H : Heap) (R : Value -> Heap -> Prop) : Zta s0b now1 id2 b3a b3n b3c H R = Zc Tryz.prog Zbbn (Zb Tryz.f21) (env0 [(Value.pointer (some ⟨s0b, 0, none⟩)), (Value.int .i64 now1), (Value.int .i64 id2), (Value.slice b3a b3n b3c)]) H (RetW Tryz.prog Tryz.f21.results.toList R) := by kernel_rfl
theorem Zcae (s0b : Nat) (now1 : Int) (id2 : Int) (b3a : Option Addr) (b3n : Nat) (b3c : Nat) {H : Heap} {R : Value -> Heap -> Prop} (h : Zta s0b now1 id2 b3a b3n b3c H fun v H1 => ∀ H2, Shut H H1 H2 -> R v H2) : FnW Tryz.prog Zhl ⟨[(Value.pointer (some ⟨s0b, 0, none⟩)), (Value.int .i64 now1), (Value.int .i64 id2), (Value.slice b3a b3n b3c)]⟩ H R := FnW.of_code Zbqi (by kernel_rfl) (Eq.mp (Zbqj s0b now1 id2 b3a b3n b3c H _) h)
def Zbjk : Plan := ⟨[], [], [], []⟩
theorem Zcft : Known Tryz.prog Zia Tryz.f22 Zbjk (Zb Tryz.f22) := by refine ⟨Tryz.func22, ?_, ?_, ?_, ?_, ?_⟩ <;> kernel_rfl
def Zyz (s0b : Nat) (now1 : Int) (id2 : Int) (H : Heap) (R : Value -> Heap -> Prop) : Prop :=
 FnW Tryz.prog Ziu ⟨[(Value.pointer (some ⟨s0b, 0, none⟩)), (Value.int .i64 now1), (Value.int .i64 id2)]⟩ H fun x15v H1 =>
 ∃ x15r0 : Option Addr, ∃ x15r1 : Int, x15v = (Value.tuple ⟨[(Value.pointer x15r0), (Value.int .i64 x15r1)]⟩) ∧
 IfB ((x15r1 : Int) != 0)
 (R (Value.tuple ⟨[(Value.slice none 0 0), (Value.int .i64 x15r1)]⟩) H1)
 (NilP x15r0 fun x23p =>
 ∃ x25 : Option Addr, H1.cell ⟨x23p.block, x23p.off + 4, none⟩ = some (Value.pointer x25) ∧
 FnW Tryz.prog Zow ⟨[(Value.pointer x25), (Value.int .i64 now1)]⟩ H1 fun x27v H2 =>
 ∃ (x27r0a : Option Addr) (x27r0n x27r0c : Nat), ∃ x27r1 : Int, x27v = (Value.tuple ⟨[(Value.slice x27r0a x27r0n x27r0c), (Value.int .i64 x27r1)]⟩) ∧
 NilP x15r0 fun x32p =>
 ∃ x35 : Int, H2.cell x32p = some (Value.int .u32 x35) ∧
 FnW Tryz.prog Zdt ⟨[(Value.pointer (some ⟨s0b, 0, none⟩)), (Value.int .u32 x35), (Value.slice x27r0a x27r0n x27r0c)]⟩ H2 fun x37v H3 =>
 ∃ (x37a : Option Addr) (x37n x37c : Nat), x37v = (Value.slice x37a x37n x37c) ∧
 R (Value.tuple ⟨[(Value.slice x37a x37n x37c), (Value.int .i64 x27r1)]⟩) H3)
theorem Zcge (s0b : Nat) (now1 : Int) (id2 : Int) (H : Heap) (R : Value -> Heap -> Prop) : Zyz s0b now1 id2 H R = Zc Tryz.prog Zbjk (Zb Tryz.f22) (env0 [(Value.pointer (some ⟨s0b, 0, none⟩)), (Value.int .i64 now1), (Value.int .i64 id2)]) H (RetW Tryz.prog Tryz.f22.results.toList R) := by kernel_rfl
theorem Zbum (s0b : Nat) (now1 : Int) (id2 : Int) {H : Heap} {R : Value -> Heap -> Prop} (h : Zyz s0b now1 id2 H fun v H1 => ∀ H2, Shut H H1 H2 -> R v H2) : FnW Tryz.prog Zia ⟨[(Value.pointer (some ⟨s0b, 0, none⟩)), (Value.int .i64 now1), (Value.int .i64 id2)]⟩ H R := FnW.of_code Zcft (by kernel_rfl) (Eq.mp (Zcge s0b now1 id2 H _) h)
def Zbkv : Plan := ⟨[], [], [], []⟩
theorem Zbxw : Known Tryz.prog Zhi Tryz.f23 Zbkv (Zb Tryz.f23) := by refine ⟨Tryz.func23, ?_, ?_, ?_, ?_, ?_⟩ <;> kernel_rfl
def Zbal (s0b : Nat) (now1 : Int) (id2 : Int) (n3 : Int) (H : Heap) (R : Value -> Heap -> Prop) : Prop :=
 FnW Tryz.prog Ziu ⟨[(Value.pointer (some ⟨s0b, 0, none⟩)), (Value.int .i64 now1), (Value.int .i64 id2)]⟩ H fun x19v H1 =>
 ∃ x19r0 : Option Addr, ∃ x19r1 : Int, x19v = (Value.tuple ⟨[(Value.pointer x19r0), (Value.int .i64 x19r1)]⟩) ∧
 IfB ((x19r1 : Int) != 0)
 (R (Value.tuple ⟨[(Value.slice none 0 0), (Value.slice none 0 0), (Value.int .i64 x19r1)]⟩) H1)
 (NilP x19r0 fun x27p =>
 ∃ x29 : Option Addr, H1.cell ⟨x27p.block, x27p.off + 4, none⟩ = some (Value.pointer x29) ∧
 FnW Tryz.prog Zpn ⟨[(Value.pointer x29), (Value.int .i64 now1), (Value.int .i64 n3)]⟩ H1 fun x32v H2 =>
 ∃ (x32r0a : Option Addr) (x32r0n x32r0c : Nat), ∃ (x32r1a : Option Addr) (x32r1n x32r1c : Nat), ∃ x32r2 : Int, x32v = (Value.tuple ⟨[(Value.slice x32r0a x32r0n x32r0c), (Value.slice x32r1a x32r1n x32r1c), (Value.int .i64 x32r2)]⟩) ∧
 NilP x19r0 fun x39p =>
 ∃ x42 : Int, H2.cell x39p = some (Value.int .u32 x42) ∧
 FnW Tryz.prog Zdt ⟨[(Value.pointer (some ⟨s0b, 0, none⟩)), (Value.int .u32 x42), (Value.slice x32r1a x32r1n x32r1c)]⟩ H2 fun x44v H3 =>
 ∃ (x44a : Option Addr) (x44n x44c : Nat), x44v = (Value.slice x44a x44n x44c) ∧
 R (Value.tuple ⟨[(Value.slice x32r0a x32r0n x32r0c), (Value.slice x44a x44n x44c), (Value.int .i64 x32r2)]⟩) H3)
theorem Zche (s0b : Nat) (now1 : Int) (id2 : Int) (n3 : Int) (H : Heap) (R : Value -> Heap -> Prop) : Zbal s0b now1 id2 n3 H R = Zc Tryz.prog Zbkv (Zb Tryz.f23) (env0 [(Value.pointer (some ⟨s0b, 0, none⟩)), (Value.int .i64 now1), (Value.int .i64 id2), (Value.int .i64 n3)]) H (RetW Tryz.prog Tryz.f23.results.toList R) := by kernel_rfl
theorem Zbza (s0b : Nat) (now1 : Int) (id2 : Int) (n3 : Int) {H : Heap} {R : Value -> Heap -> Prop} (h : Zbal s0b now1 id2 n3 H fun v H1 => ∀ H2, Shut H H1 H2 -> R v H2) : FnW Tryz.prog Zhi ⟨[(Value.pointer (some ⟨s0b, 0, none⟩)), (Value.int .i64 now1), (Value.int .i64 id2), (Value.int .i64 n3)]⟩ H R := FnW.of_code Zbxw (by kernel_rfl) (Eq.mp (Zche s0b now1 id2 n3 H _) h)
def Zbfp : Plan := ⟨[], [], [], []⟩
theorem Zbwi : Known Tryz.prog Zpg Tryz.f24 Zbfp (Zb Tryz.f24) := by refine ⟨Tryz.func24, ?_, ?_, ?_, ?_, ?_⟩ <;> kernel_rfl
def Zua (s0b : Nat) (n1 : Int) (H : Heap) (R : Value -> Heap -> Prop) : Prop :=
 FnW Tryz.prog Zjp ⟨[(Value.pointer (some ⟨s0b, 0, none⟩))]⟩ H fun x7v H1 =>
 ∃ x7 : Bool, x7v = (Value.bool x7) ∧
 IfB (!x7)
 (R (Value.int .i64 1) H1)
 (FnW Tryz.prog Zif ⟨[(Value.int .i64 n1)]⟩ H1 fun x11v H2 =>
 ∃ x11 : Bool, x11v = (Value.bool x11) ∧
 IfB (!x11)
 (R (Value.int .i64 2) H2)
 (∃ (x17a : Option Addr) (x17n x17c : Nat), H2.cell ⟨s0b, 2, none⟩ = some (Value.slice x17a x17n x17c) ∧
 FnW Tryz.prog Zkn ⟨[(Value.slice x17a x17n x17c), (Value.int .i64 n1)]⟩ H2 fun x19v H3 =>
 ∃ x19 : Bool, x19v = (Value.bool x19) ∧
 IfB x19
 (R (Value.int .i64 6) H3)
 (∃ (x24a : Option Addr) (x24n x24c : Nat), H3.cell ⟨s0b, 2, none⟩ = some (Value.slice x24a x24n x24c) ∧
 IfB (((x24n : Int) : Int) == 8)
 (R (Value.int .i64 4) H3)
 (∃ (x31a : Option Addr) (x31n x31c : Nat), H3.cell ⟨s0b, 2, none⟩ = some (Value.slice x31a x31n x31c) ∧
 NewW H3 (Obj.cells ⟨[(Value.int .i64 n1)]⟩ Zde) fun x33b H4 =>
 AppW Tryz.prog #[Zzn, Zzn] Zzn [(Value.slice x31a x31n x31c), (Value.slice (some ⟨x33b, 0, none⟩) 1 1)] H4 fun x34v H5 =>
 ∃ (x34a : Option Addr) (x34n x34c : Nat), x34v = (Value.slice x34a x34n x34c) ∧
 Za H5 ⟨s0b, 2, none⟩ (Value.slice x34a x34n x34c) fun H6 =>
 R (Value.int .i64 0) H6))))
theorem Zbwe (s0b : Nat) (n1 : Int) (H : Heap) (R : Value -> Heap -> Prop) : Zua s0b n1 H R = Zc Tryz.prog Zbfp (Zb Tryz.f24) (env0 [(Value.pointer (some ⟨s0b, 0, none⟩)), (Value.int .i64 n1)]) H (RetW Tryz.prog Tryz.f24.results.toList R) := by kernel_rfl
theorem Zbrq (s0b : Nat) (n1 : Int) {H : Heap} {R : Value -> Heap -> Prop} (h : Zua s0b n1 H fun v H1 => ∀ H2, Shut H H1 H2 -> R v H2) : FnW Tryz.prog Zpg ⟨[(Value.pointer (some ⟨s0b, 0, none⟩)), (Value.int .i64 n1)]⟩ H R := FnW.of_code Zbwi (by kernel_rfl) (Eq.mp (Zbwe s0b n1 H _) h)
def Zbcp : Plan := ⟨[(7, [0, 2, 3, 5, 6, 8, 9, 11, 12, 13, 14, 15, 16, 17, 19, 20, 22, 24, 25, 26, 23, 1, 4, 7, 10, 18, 21, 27, 28, 29, 30], [57])], [], [], [(7, ⟨23, [11, 12, 13], [0, 2, 3, 5, 6, 8, 9, 14, 15, 16, 17, 19, 20, 22, 24, 25, 26, 1, 4, 7, 10, 18, 21], [27], [28, 29, 30], [1, 4, 7, 10, 18, 21]⟩)]⟩
theorem Zboy : Known Tryz.prog Zmz Tryz.f26 Zbcp (Zb Tryz.f26) := by refine ⟨Tryz.func26, ?_, ?_, ?_, ?_, ?_⟩ <;> kernel_rfl
def Zmp (b2a : Option Addr) (b2n : Nat) (b2c : Nat) (x6b : Nat) (x16 : Int) (x34 : Bool) (H11 : Heap) (R : Value -> Heap -> Prop) : Prop :=
 IfB x34
 (Za H11 ⟨x6b, 0, none⟩ (Value.int .i64 0) fun H12 =>
 Za H12 ⟨x6b, 1, none⟩ (Value.int .i64 0) fun H13 =>
 Za H13 ⟨x6b, 2, none⟩ (Value.int .u32 0) fun H14 =>
 Za H14 ⟨x6b, 3, none⟩ (Value.int .u32 0) fun H15 =>
 Za H15 ⟨x6b, 4, none⟩ (Value.int .i64 0) fun H16 =>
 Za H16 ⟨x6b, 5, none⟩ (Value.int .i64 0) fun H17 =>
 Za H17 ⟨x6b, 6, none⟩ (Value.int .i64 0) fun H18 =>
 Za H18 ⟨x6b, 7, none⟩ (Value.int .i64 0) fun H19 =>
 Za H19 ⟨x6b, 8, none⟩ (Value.slice none 0 0) fun H20 =>
 ∃ r0c0_1 : Int, H20.cell ⟨x6b, 0, none⟩ = some (Value.int .i64 r0c0_1) ∧ ∃ r0c1_1 : Int, H20.cell ⟨x6b, 1, none⟩ = some (Value.int .i64 r0c1_1) ∧ ∃ r0c2_1 : Int, H20.cell ⟨x6b, 2, none⟩ = some (Value.int .u32 r0c2_1) ∧ ∃ r0c3_1 : Int, H20.cell ⟨x6b, 3, none⟩ = some (Value.int .u32 r0c3_1) ∧ ∃ r0c4_1 : Int, H20.cell ⟨x6b, 4, none⟩ = some (Value.int .i64 r0c4_1) ∧ ∃ r0c5_1 : Int, H20.cell ⟨x6b, 5, none⟩ = some (Value.int .i64 r0c5_1) ∧ ∃ r0c6_1 : Int, H20.cell ⟨x6b, 6, none⟩ = some (Value.int .i64 r0c6_1) ∧ ∃ r0c7_1 : Int, H20.cell ⟨x6b, 7, none⟩ = some (Value.int .i64 r0c7_1) ∧ ∃ (r0c8a_1 : Option Addr) (r0c8n_1 r0c8c_1 : Nat), H20.cell ⟨x6b, 8, none⟩ = some (Value.slice r0c8a_1 r0c8n_1 r0c8c_1) ∧ R (Value.tuple ⟨[(Value.agg ⟨[(Value.int .i64 r0c0_1), (Value.int .i64 r0c1_1), (Value.int .u32 r0c2_1), (Value.int .u32 r0c3_1), (Value.int .i64 r0c4_1), (Value.int .i64 r0c5_1), (Value.int .i64 r0c6_1), (Value.int .i64 r0c7_1), (Value.slice r0c8a_1 r0c8n_1 r0c8c_1)]⟩), (Value.int .i64 110)]⟩) H20)
 (InC (IntKind.wrap .i64 (4 * (IntKind.wrap .i64 (Int.fdiv x16 (2 ^ (min (4 : Int).toNat (IntKind.bits .u8))))))) b2c fun x38h =>
 InC 20 x38h fun x38l =>
 FnW Tryz.prog Zox ⟨[(Value.slice (if b2c = x38l then b2a else Option.map (fun a => Addr.add a (x38l * 1)) b2a) (x38h - x38l) (b2c - x38l))]⟩ H11 fun x39v H21 =>
 ∃ x39r0 : Int, ∃ x39r1 : Bool, x39v = (Value.tuple ⟨[(Value.int .i64 x39r0), (Value.bool x39r1)]⟩) ∧
 IfB (!x39r1)
 (Za H21 ⟨x6b, 0, none⟩ (Value.int .i64 0) fun H22 =>
 Za H22 ⟨x6b, 1, none⟩ (Value.int .i64 0) fun H23 =>
 Za H23 ⟨x6b, 2, none⟩ (Value.int .u32 0) fun H24 =>
 Za H24 ⟨x6b, 3, none⟩ (Value.int .u32 0) fun H25 =>
 Za H25 ⟨x6b, 4, none⟩ (Value.int .i64 0) fun H26 =>
 Za H26 ⟨x6b, 5, none⟩ (Value.int .i64 0) fun H27 =>
 Za H27 ⟨x6b, 6, none⟩ (Value.int .i64 0) fun H28 =>
 Za H28 ⟨x6b, 7, none⟩ (Value.int .i64 0) fun H29 =>
 Za H29 ⟨x6b, 8, none⟩ (Value.slice none 0 0) fun H30 =>
 ∃ r0c0_2 : Int, H30.cell ⟨x6b, 0, none⟩ = some (Value.int .i64 r0c0_2) ∧ ∃ r0c1_2 : Int, H30.cell ⟨x6b, 1, none⟩ = some (Value.int .i64 r0c1_2) ∧ ∃ r0c2_2 : Int, H30.cell ⟨x6b, 2, none⟩ = some (Value.int .u32 r0c2_2) ∧ ∃ r0c3_2 : Int, H30.cell ⟨x6b, 3, none⟩ = some (Value.int .u32 r0c3_2) ∧ ∃ r0c4_2 : Int, H30.cell ⟨x6b, 4, none⟩ = some (Value.int .i64 r0c4_2) ∧ ∃ r0c5_2 : Int, H30.cell ⟨x6b, 5, none⟩ = some (Value.int .i64 r0c5_2) ∧ ∃ r0c6_2 : Int, H30.cell ⟨x6b, 6, none⟩ = some (Value.int .i64 r0c6_2) ∧ ∃ r0c7_2 : Int, H30.cell ⟨x6b, 7, none⟩ = some (Value.int .i64 r0c7_2) ∧ ∃ (r0c8a_2 : Option Addr) (r0c8n_2 r0c8c_2 : Nat), H30.cell ⟨x6b, 8, none⟩ = some (Value.slice r0c8a_2 r0c8n_2 r0c8c_2) ∧ R (Value.tuple ⟨[(Value.agg ⟨[(Value.int .i64 r0c0_2), (Value.int .i64 r0c1_2), (Value.int .u32 r0c2_2), (Value.int .u32 r0c3_2), (Value.int .i64 r0c4_2), (Value.int .i64 r0c5_2), (Value.int .i64 r0c6_2), (Value.int .i64 r0c7_2), (Value.slice r0c8a_2 r0c8n_2 r0c8c_2)]⟩), (Value.int .i64 110)]⟩) H30)
 (∃ bs : List Nat, (∀ b ∈ bs, ∃ o, H21 b = some o) ∧
 NilP b2a fun x56q =>
 InB 13 b2n fun x56i =>
 elemAt x56q x56i 1 fun x56p =>
 x56p.block ∈ bs ∧ ∃ x57 : Int, H21.cell x56p = some (Value.int .u8 x57) ∧
 InC 2 b2n fun x47l =>
 InC 4 b2n fun x50l =>
 InC 8 b2n fun x53l =>
 InC 14 b2n fun x61l =>
 InC 18 b2n fun x64l =>
 InC (IntKind.wrap .i64 (4 * (IntKind.wrap .i64 (Int.fdiv x16 (2 ^ (min (4 : Int).toNat (IntKind.bits .u8))))))) b2n fun x70l =>
 (NewW H21 (Obj.cells ⟨[]⟩ Zf) fun x67b H31 =>
 FnW Tryz.prog Zbj ⟨[(Value.slice b2a b2n b2c)]⟩ H31 fun x45v H32 =>
 ∃ x45 : Int, x45v = (Value.int .i64 x45) ∧
 Ze bs H21 H32 ∧ FnW Tryz.prog Zbj ⟨[(Value.slice (if b2c = x47l then b2a else Option.map (fun a => Addr.add a (x47l * 1)) b2a) (b2n - x47l) (b2c - x47l))]⟩ H32 fun x48v H33 =>
 ∃ x48 : Int, x48v = (Value.int .i64 x48) ∧
 Ze bs H21 H33 ∧ FnW Tryz.prog Zdd ⟨[(Value.slice (if b2c = x50l then b2a else Option.map (fun a => Addr.add a (x50l * 1)) b2a) (b2n - x50l) (b2c - x50l))]⟩ H33 fun x51v H34 =>
 ∃ x51 : Int, x51v = (Value.int .u32 x51) ∧
 Ze bs H21 H34 ∧ FnW Tryz.prog Zdd ⟨[(Value.slice (if b2c = x53l then b2a else Option.map (fun a => Addr.add a (x53l * 1)) b2a) (b2n - x53l) (b2c - x53l))]⟩ H34 fun x54v H35 =>
 ∃ x54 : Int, x54v = (Value.int .u32 x54) ∧
 Ze bs H21 H35 ∧ FnW Tryz.prog Zbj ⟨[(Value.slice (if b2c = x61l then b2a else Option.map (fun a => Addr.add a (x61l * 1)) b2a) (b2n - x61l) (b2c - x61l))]⟩ H35 fun x62v H36 =>
 ∃ x62 : Int, x62v = (Value.int .i64 x62) ∧
 Ze bs H21 H36 ∧ FnW Tryz.prog Zbj ⟨[(Value.slice (if b2c = x64l then b2a else Option.map (fun a => Addr.add a (x64l * 1)) b2a) (b2n - x64l) (b2c - x64l))]⟩ H36 fun x65v H37 =>
 ∃ x65 : Int, x65v = (Value.int .i64 x65) ∧
 Ze bs H21 H37 ∧ AppW Tryz.prog #[Zi, Zi] Zi [(Value.slice (some ⟨x67b, 0, none⟩) 0 0), (Value.slice (if b2c = x70l then b2a else Option.map (fun a => Addr.add a (x70l * 1)) b2a) (b2n - x70l) (b2c - x70l))] H37 fun x71v H38 =>
 ∃ (x71a : Option Addr) (x71n x71c : Nat), x71v = (Value.slice x71a x71n x71c) ∧
 Ze bs H21 H38 ∧ Za H38 ⟨x6b, 0, none⟩ (Value.int .i64 x45) fun H39 =>
 Za H39 ⟨x6b, 1, none⟩ (Value.int .i64 x48) fun H40 =>
 Za H40 ⟨x6b, 2, none⟩ (Value.int .u32 x51) fun H41 =>
 Za H41 ⟨x6b, 3, none⟩ (Value.int .u32 x54) fun H42 =>
 Za H42 ⟨x6b, 4, none⟩ (Value.int .i64 (IntKind.wrap .i64 (Zz .u8 x57 63))) fun H43 =>
 Za H43 ⟨x6b, 5, none⟩ (Value.int .i64 x62) fun H44 =>
 Za H44 ⟨x6b, 6, none⟩ (Value.int .i64 x65) fun H45 =>
 Za H45 ⟨x6b, 7, none⟩ (Value.int .i64 x39r0) fun H46 =>
 Za H46 ⟨x6b, 8, none⟩ (Value.slice x71a x71n x71c) fun H47 =>
 ∃ r0c0_3 : Int, H47.cell ⟨x6b, 0, none⟩ = some (Value.int .i64 r0c0_3) ∧ ∃ r0c1_3 : Int, H47.cell ⟨x6b, 1, none⟩ = some (Value.int .i64 r0c1_3) ∧ ∃ r0c2_3 : Int, H47.cell ⟨x6b, 2, none⟩ = some (Value.int .u32 r0c2_3) ∧ ∃ r0c3_3 : Int, H47.cell ⟨x6b, 3, none⟩ = some (Value.int .u32 r0c3_3) ∧ ∃ r0c4_3 : Int, H47.cell ⟨x6b, 4, none⟩ = some (Value.int .i64 r0c4_3) ∧ ∃ r0c5_3 : Int, H47.cell ⟨x6b, 5, none⟩ = some (Value.int .i64 r0c5_3) ∧ ∃ r0c6_3 : Int, H47.cell ⟨x6b, 6, none⟩ = some (Value.int .i64 r0c6_3) ∧ ∃ r0c7_3 : Int, H47.cell ⟨x6b, 7, none⟩ = some (Value.int .i64 r0c7_3) ∧ ∃ (r0c8a_3 : Option Addr) (r0c8n_3 r0c8c_3 : Nat), H47.cell ⟨x6b, 8, none⟩ = some (Value.slice r0c8a_3 r0c8n_3 r0c8c_3) ∧ R (Value.tuple ⟨[(Value.agg ⟨[(Value.int .i64 r0c0_3), (Value.int .i64 r0c1_3), (Value.int .u32 r0c2_3), (Value.int .u32 r0c3_3), (Value.int .i64 r0c4_3), (Value.int .i64 r0c5_3), (Value.int .i64 r0c6_3), (Value.int .i64 r0c7_3), (Value.slice r0c8a_3 r0c8n_3 r0c8c_3)]⟩), (Value.int .i64 0)]⟩) H47) ∧
 (FnW Tryz.prog Zbj ⟨[(Value.slice b2a b2n b2c)]⟩ H21 fun x45v_1 H48 =>
 ∃ x45_1 : Int, x45v_1 = (Value.int .i64 x45_1) ∧
 Ze bs H21 H48 ∧ (NewW H48 (Obj.cells ⟨[]⟩ Zf) fun x67b_1 H49 =>
 FnW Tryz.prog Zbj ⟨[(Value.slice (if b2c = x47l then b2a else Option.map (fun a => Addr.add a (x47l * 1)) b2a) (b2n - x47l) (b2c - x47l))]⟩ H49 fun x48v_1 H50 =>
 ∃ x48_1 : Int, x48v_1 = (Value.int .i64 x48_1) ∧
 Ze bs H21 H50 ∧ FnW Tryz.prog Zdd ⟨[(Value.slice (if b2c = x50l then b2a else Option.map (fun a => Addr.add a (x50l * 1)) b2a) (b2n - x50l) (b2c - x50l))]⟩ H50 fun x51v_1 H51 =>
 ∃ x51_1 : Int, x51v_1 = (Value.int .u32 x51_1) ∧
 Ze bs H21 H51 ∧ FnW Tryz.prog Zdd ⟨[(Value.slice (if b2c = x53l then b2a else Option.map (fun a => Addr.add a (x53l * 1)) b2a) (b2n - x53l) (b2c - x53l))]⟩ H51 fun x54v_1 H52 =>
 ∃ x54_1 : Int, x54v_1 = (Value.int .u32 x54_1) ∧
 Ze bs H21 H52 ∧ FnW Tryz.prog Zbj ⟨[(Value.slice (if b2c = x61l then b2a else Option.map (fun a => Addr.add a (x61l * 1)) b2a) (b2n - x61l) (b2c - x61l))]⟩ H52 fun x62v_1 H53 =>
 ∃ x62_1 : Int, x62v_1 = (Value.int .i64 x62_1) ∧
 Ze bs H21 H53 ∧ FnW Tryz.prog Zbj ⟨[(Value.slice (if b2c = x64l then b2a else Option.map (fun a => Addr.add a (x64l * 1)) b2a) (b2n - x64l) (b2c - x64l))]⟩ H53 fun x65v_1 H54 =>
 ∃ x65_1 : Int, x65v_1 = (Value.int .i64 x65_1) ∧
 Ze bs H21 H54 ∧ AppW Tryz.prog #[Zi, Zi] Zi [(Value.slice (some ⟨x67b_1, 0, none⟩) 0 0), (Value.slice (if b2c = x70l then b2a else Option.map (fun a => Addr.add a (x70l * 1)) b2a) (b2n - x70l) (b2c - x70l))] H54 fun x71v_1 H55 =>
 ∃ (x71a_1 : Option Addr) (x71n_1 x71c_1 : Nat), x71v_1 = (Value.slice x71a_1 x71n_1 x71c_1) ∧
 Ze bs H21 H55 ∧ Za H55 ⟨x6b, 0, none⟩ (Value.int .i64 x45_1) fun H56 =>
 Za H56 ⟨x6b, 1, none⟩ (Value.int .i64 x48_1) fun H57 =>
 Za H57 ⟨x6b, 2, none⟩ (Value.int .u32 x51_1) fun H58 =>
 Za H58 ⟨x6b, 3, none⟩ (Value.int .u32 x54_1) fun H59 =>
 Za H59 ⟨x6b, 4, none⟩ (Value.int .i64 (IntKind.wrap .i64 (Zz .u8 x57 63))) fun H60 =>
 Za H60 ⟨x6b, 5, none⟩ (Value.int .i64 x62_1) fun H61 =>
 Za H61 ⟨x6b, 6, none⟩ (Value.int .i64 x65_1) fun H62 =>
 Za H62 ⟨x6b, 7, none⟩ (Value.int .i64 x39r0) fun H63 =>
 Za H63 ⟨x6b, 8, none⟩ (Value.slice x71a_1 x71n_1 x71c_1) fun H64 =>
 ∃ r0c0_4 : Int, H64.cell ⟨x6b, 0, none⟩ = some (Value.int .i64 r0c0_4) ∧ ∃ r0c1_4 : Int, H64.cell ⟨x6b, 1, none⟩ = some (Value.int .i64 r0c1_4) ∧ ∃ r0c2_4 : Int, H64.cell ⟨x6b, 2, none⟩ = some (Value.int .u32 r0c2_4) ∧ ∃ r0c3_4 : Int, H64.cell ⟨x6b, 3, none⟩ = some (Value.int .u32 r0c3_4) ∧ ∃ r0c4_4 : Int, H64.cell ⟨x6b, 4, none⟩ = some (Value.int .i64 r0c4_4) ∧ ∃ r0c5_4 : Int, H64.cell ⟨x6b, 5, none⟩ = some (Value.int .i64 r0c5_4) ∧ ∃ r0c6_4 : Int, H64.cell ⟨x6b, 6, none⟩ = some (Value.int .i64 r0c6_4) ∧ ∃ r0c7_4 : Int, H64.cell ⟨x6b, 7, none⟩ = some (Value.int .i64 r0c7_4) ∧ ∃ (r0c8a_4 : Option Addr) (r0c8n_4 r0c8c_4 : Nat), H64.cell ⟨x6b, 8, none⟩ = some (Value.slice r0c8a_4 r0c8n_4 r0c8c_4) ∧ R (Value.tuple ⟨[(Value.agg ⟨[(Value.int .i64 r0c0_4), (Value.int .i64 r0c1_4), (Value.int .u32 r0c2_4), (Value.int .u32 r0c3_4), (Value.int .i64 r0c4_4), (Value.int .i64 r0c5_4), (Value.int .i64 r0c6_4), (Value.int .i64 r0c7_4), (Value.slice r0c8a_4 r0c8n_4 r0c8c_4)]⟩), (Value.int .i64 0)]⟩) H64) ∧
 (FnW Tryz.prog Zbj ⟨[(Value.slice (if b2c = x47l then b2a else Option.map (fun a => Addr.add a (x47l * 1)) b2a) (b2n - x47l) (b2c - x47l))]⟩ H48 fun x48v_2 H65 =>
 ∃ x48_2 : Int, x48v_2 = (Value.int .i64 x48_2) ∧
 Ze bs H21 H65 ∧ (NewW H65 (Obj.cells ⟨[]⟩ Zf) fun x67b_2 H66 =>
 FnW Tryz.prog Zdd ⟨[(Value.slice (if b2c = x50l then b2a else Option.map (fun a => Addr.add a (x50l * 1)) b2a) (b2n - x50l) (b2c - x50l))]⟩ H66 fun x51v_2 H67 =>
 ∃ x51_2 : Int, x51v_2 = (Value.int .u32 x51_2) ∧
 Ze bs H21 H67 ∧ FnW Tryz.prog Zdd ⟨[(Value.slice (if b2c = x53l then b2a else Option.map (fun a => Addr.add a (x53l * 1)) b2a) (b2n - x53l) (b2c - x53l))]⟩ H67 fun x54v_2 H68 =>
 ∃ x54_2 : Int, x54v_2 = (Value.int .u32 x54_2) ∧
 Ze bs H21 H68 ∧ FnW Tryz.prog Zbj ⟨[(Value.slice (if b2c = x61l then b2a else Option.map (fun a => Addr.add a (x61l * 1)) b2a) (b2n - x61l) (b2c - x61l))]⟩ H68 fun x62v_2 H69 =>
 ∃ x62_2 : Int, x62v_2 = (Value.int .i64 x62_2) ∧
 Ze bs H21 H69 ∧ FnW Tryz.prog Zbj ⟨[(Value.slice (if b2c = x64l then b2a else Option.map (fun a => Addr.add a (x64l * 1)) b2a) (b2n - x64l) (b2c - x64l))]⟩ H69 fun x65v_2 H70 =>
 ∃ x65_2 : Int, x65v_2 = (Value.int .i64 x65_2) ∧
 Ze bs H21 H70 ∧ AppW Tryz.prog #[Zi, Zi] Zi [(Value.slice (some ⟨x67b_2, 0, none⟩) 0 0), (Value.slice (if b2c = x70l then b2a else Option.map (fun a => Addr.add a (x70l * 1)) b2a) (b2n - x70l) (b2c - x70l))] H70 fun x71v_2 H71 =>
 ∃ (x71a_2 : Option Addr) (x71n_2 x71c_2 : Nat), x71v_2 = (Value.slice x71a_2 x71n_2 x71c_2) ∧
 Ze bs H21 H71 ∧ Za H71 ⟨x6b, 0, none⟩ (Value.int .i64 x45_1) fun H72 =>
 Za H72 ⟨x6b, 1, none⟩ (Value.int .i64 x48_2) fun H73 =>
 Za H73 ⟨x6b, 2, none⟩ (Value.int .u32 x51_2) fun H74 =>
 Za H74 ⟨x6b, 3, none⟩ (Value.int .u32 x54_2) fun H75 =>
 Za H75 ⟨x6b, 4, none⟩ (Value.int .i64 (IntKind.wrap .i64 (Zz .u8 x57 63))) fun H76 =>
 Za H76 ⟨x6b, 5, none⟩ (Value.int .i64 x62_2) fun H77 =>
 Za H77 ⟨x6b, 6, none⟩ (Value.int .i64 x65_2) fun H78 =>
 Za H78 ⟨x6b, 7, none⟩ (Value.int .i64 x39r0) fun H79 =>
 Za H79 ⟨x6b, 8, none⟩ (Value.slice x71a_2 x71n_2 x71c_2) fun H80 =>
 ∃ r0c0_5 : Int, H80.cell ⟨x6b, 0, none⟩ = some (Value.int .i64 r0c0_5) ∧ ∃ r0c1_5 : Int, H80.cell ⟨x6b, 1, none⟩ = some (Value.int .i64 r0c1_5) ∧ ∃ r0c2_5 : Int, H80.cell ⟨x6b, 2, none⟩ = some (Value.int .u32 r0c2_5) ∧ ∃ r0c3_5 : Int, H80.cell ⟨x6b, 3, none⟩ = some (Value.int .u32 r0c3_5) ∧ ∃ r0c4_5 : Int, H80.cell ⟨x6b, 4, none⟩ = some (Value.int .i64 r0c4_5) ∧ ∃ r0c5_5 : Int, H80.cell ⟨x6b, 5, none⟩ = some (Value.int .i64 r0c5_5) ∧ ∃ r0c6_5 : Int, H80.cell ⟨x6b, 6, none⟩ = some (Value.int .i64 r0c6_5) ∧ ∃ r0c7_5 : Int, H80.cell ⟨x6b, 7, none⟩ = some (Value.int .i64 r0c7_5) ∧ ∃ (r0c8a_5 : Option Addr) (r0c8n_5 r0c8c_5 : Nat), H80.cell ⟨x6b, 8, none⟩ = some (Value.slice r0c8a_5 r0c8n_5 r0c8c_5) ∧ R (Value.tuple ⟨[(Value.agg ⟨[(Value.int .i64 r0c0_5), (Value.int .i64 r0c1_5), (Value.int .u32 r0c2_5), (Value.int .u32 r0c3_5), (Value.int .i64 r0c4_5), (Value.int .i64 r0c5_5), (Value.int .i64 r0c6_5), (Value.int .i64 r0c7_5), (Value.slice r0c8a_5 r0c8n_5 r0c8c_5)]⟩), (Value.int .i64 0)]⟩) H80) ∧
 (FnW Tryz.prog Zdd ⟨[(Value.slice (if b2c = x50l then b2a else Option.map (fun a => Addr.add a (x50l * 1)) b2a) (b2n - x50l) (b2c - x50l))]⟩ H65 fun x51v_3 H81 =>
 ∃ x51_3 : Int, x51v_3 = (Value.int .u32 x51_3) ∧
 Ze bs H21 H81 ∧ (NewW H81 (Obj.cells ⟨[]⟩ Zf) fun x67b_3 H82 =>
 FnW Tryz.prog Zdd ⟨[(Value.slice (if b2c = x53l then b2a else Option.map (fun a => Addr.add a (x53l * 1)) b2a) (b2n - x53l) (b2c - x53l))]⟩ H82 fun x54v_3 H83 =>
 ∃ x54_3 : Int, x54v_3 = (Value.int .u32 x54_3) ∧
 Ze bs H21 H83 ∧ FnW Tryz.prog Zbj ⟨[(Value.slice (if b2c = x61l then b2a else Option.map (fun a => Addr.add a (x61l * 1)) b2a) (b2n - x61l) (b2c - x61l))]⟩ H83 fun x62v_3 H84 =>
 ∃ x62_3 : Int, x62v_3 = (Value.int .i64 x62_3) ∧
 Ze bs H21 H84 ∧ FnW Tryz.prog Zbj ⟨[(Value.slice (if b2c = x64l then b2a else Option.map (fun a => Addr.add a (x64l * 1)) b2a) (b2n - x64l) (b2c - x64l))]⟩ H84 fun x65v_3 H85 =>
 ∃ x65_3 : Int, x65v_3 = (Value.int .i64 x65_3) ∧
 Ze bs H21 H85 ∧ AppW Tryz.prog #[Zi, Zi] Zi [(Value.slice (some ⟨x67b_3, 0, none⟩) 0 0), (Value.slice (if b2c = x70l then b2a else Option.map (fun a => Addr.add a (x70l * 1)) b2a) (b2n - x70l) (b2c - x70l))] H85 fun x71v_3 H86 =>
 ∃ (x71a_3 : Option Addr) (x71n_3 x71c_3 : Nat), x71v_3 = (Value.slice x71a_3 x71n_3 x71c_3) ∧
 Ze bs H21 H86 ∧ Za H86 ⟨x6b, 0, none⟩ (Value.int .i64 x45_1) fun H87 =>
 Za H87 ⟨x6b, 1, none⟩ (Value.int .i64 x48_2) fun H88 =>
 Za H88 ⟨x6b, 2, none⟩ (Value.int .u32 x51_3) fun H89 =>
 Za H89 ⟨x6b, 3, none⟩ (Value.int .u32 x54_3) fun H90 =>
 Za H90 ⟨x6b, 4, none⟩ (Value.int .i64 (IntKind.wrap .i64 (Zz .u8 x57 63))) fun H91 =>
 Za H91 ⟨x6b, 5, none⟩ (Value.int .i64 x62_3) fun H92 =>
 Za H92 ⟨x6b, 6, none⟩ (Value.int .i64 x65_3) fun H93 =>
 Za H93 ⟨x6b, 7, none⟩ (Value.int .i64 x39r0) fun H94 =>
 Za H94 ⟨x6b, 8, none⟩ (Value.slice x71a_3 x71n_3 x71c_3) fun H95 =>
 ∃ r0c0_6 : Int, H95.cell ⟨x6b, 0, none⟩ = some (Value.int .i64 r0c0_6) ∧ ∃ r0c1_6 : Int, H95.cell ⟨x6b, 1, none⟩ = some (Value.int .i64 r0c1_6) ∧ ∃ r0c2_6 : Int, H95.cell ⟨x6b, 2, none⟩ = some (Value.int .u32 r0c2_6) ∧ ∃ r0c3_6 : Int, H95.cell ⟨x6b, 3, none⟩ = some (Value.int .u32 r0c3_6) ∧ ∃ r0c4_6 : Int, H95.cell ⟨x6b, 4, none⟩ = some (Value.int .i64 r0c4_6) ∧ ∃ r0c5_6 : Int, H95.cell ⟨x6b, 5, none⟩ = some (Value.int .i64 r0c5_6) ∧ ∃ r0c6_6 : Int, H95.cell ⟨x6b, 6, none⟩ = some (Value.int .i64 r0c6_6) ∧ ∃ r0c7_6 : Int, H95.cell ⟨x6b, 7, none⟩ = some (Value.int .i64 r0c7_6) ∧ ∃ (r0c8a_6 : Option Addr) (r0c8n_6 r0c8c_6 : Nat), H95.cell ⟨x6b, 8, none⟩ = some (Value.slice r0c8a_6 r0c8n_6 r0c8c_6) ∧ R (Value.tuple ⟨[(Value.agg ⟨[(Value.int .i64 r0c0_6), (Value.int .i64 r0c1_6), (Value.int .u32 r0c2_6), (Value.int .u32 r0c3_6), (Value.int .i64 r0c4_6), (Value.int .i64 r0c5_6), (Value.int .i64 r0c6_6), (Value.int .i64 r0c7_6), (Value.slice r0c8a_6 r0c8n_6 r0c8c_6)]⟩), (Value.int .i64 0)]⟩) H95) ∧
 (FnW Tryz.prog Zdd ⟨[(Value.slice (if b2c = x53l then b2a else Option.map (fun a => Addr.add a (x53l * 1)) b2a) (b2n - x53l) (b2c - x53l))]⟩ H81 fun x54v_4 H96 =>
 ∃ x54_4 : Int, x54v_4 = (Value.int .u32 x54_4) ∧
 Ze bs H21 H96 ∧ (NewW H96 (Obj.cells ⟨[]⟩ Zf) fun x67b_4 H97 =>
 FnW Tryz.prog Zbj ⟨[(Value.slice (if b2c = x61l then b2a else Option.map (fun a => Addr.add a (x61l * 1)) b2a) (b2n - x61l) (b2c - x61l))]⟩ H97 fun x62v_4 H98 =>
 ∃ x62_4 : Int, x62v_4 = (Value.int .i64 x62_4) ∧
 Ze bs H21 H98 ∧ FnW Tryz.prog Zbj ⟨[(Value.slice (if b2c = x64l then b2a else Option.map (fun a => Addr.add a (x64l * 1)) b2a) (b2n - x64l) (b2c - x64l))]⟩ H98 fun x65v_4 H99 =>
 ∃ x65_4 : Int, x65v_4 = (Value.int .i64 x65_4) ∧
 Ze bs H21 H99 ∧ AppW Tryz.prog #[Zi, Zi] Zi [(Value.slice (some ⟨x67b_4, 0, none⟩) 0 0), (Value.slice (if b2c = x70l then b2a else Option.map (fun a => Addr.add a (x70l * 1)) b2a) (b2n - x70l) (b2c - x70l))] H99 fun x71v_4 H100 =>
 ∃ (x71a_4 : Option Addr) (x71n_4 x71c_4 : Nat), x71v_4 = (Value.slice x71a_4 x71n_4 x71c_4) ∧
 Ze bs H21 H100 ∧ Za H100 ⟨x6b, 0, none⟩ (Value.int .i64 x45_1) fun H101 =>
 Za H101 ⟨x6b, 1, none⟩ (Value.int .i64 x48_2) fun H102 =>
 Za H102 ⟨x6b, 2, none⟩ (Value.int .u32 x51_3) fun H103 =>
 Za H103 ⟨x6b, 3, none⟩ (Value.int .u32 x54_4) fun H104 =>
 Za H104 ⟨x6b, 4, none⟩ (Value.int .i64 (IntKind.wrap .i64 (Zz .u8 x57 63))) fun H105 =>
 Za H105 ⟨x6b, 5, none⟩ (Value.int .i64 x62_4) fun H106 =>
 Za H106 ⟨x6b, 6, none⟩ (Value.int .i64 x65_4) fun H107 =>
 Za H107 ⟨x6b, 7, none⟩ (Value.int .i64 x39r0) fun H108 =>
 Za H108 ⟨x6b, 8, none⟩ (Value.slice x71a_4 x71n_4 x71c_4) fun H109 =>
 ∃ r0c0_7 : Int, H109.cell ⟨x6b, 0, none⟩ = some (Value.int .i64 r0c0_7) ∧ ∃ r0c1_7 : Int, H109.cell ⟨x6b, 1, none⟩ = some (Value.int .i64 r0c1_7) ∧ ∃ r0c2_7 : Int, H109.cell ⟨x6b, 2, none⟩ = some (Value.int .u32 r0c2_7) ∧ ∃ r0c3_7 : Int, H109.cell ⟨x6b, 3, none⟩ = some (Value.int .u32 r0c3_7) ∧ ∃ r0c4_7 : Int, H109.cell ⟨x6b, 4, none⟩ = some (Value.int .i64 r0c4_7) ∧ ∃ r0c5_7 : Int, H109.cell ⟨x6b, 5, none⟩ = some (Value.int .i64 r0c5_7) ∧ ∃ r0c6_7 : Int, H109.cell ⟨x6b, 6, none⟩ = some (Value.int .i64 r0c6_7) ∧ ∃ r0c7_7 : Int, H109.cell ⟨x6b, 7, none⟩ = some (Value.int .i64 r0c7_7) ∧ ∃ (r0c8a_7 : Option Addr) (r0c8n_7 r0c8c_7 : Nat), H109.cell ⟨x6b, 8, none⟩ = some (Value.slice r0c8a_7 r0c8n_7 r0c8c_7) ∧ R (Value.tuple ⟨[(Value.agg ⟨[(Value.int .i64 r0c0_7), (Value.int .i64 r0c1_7), (Value.int .u32 r0c2_7), (Value.int .u32 r0c3_7), (Value.int .i64 r0c4_7), (Value.int .i64 r0c5_7), (Value.int .i64 r0c6_7), (Value.int .i64 r0c7_7), (Value.slice r0c8a_7 r0c8n_7 r0c8c_7)]⟩), (Value.int .i64 0)]⟩) H109) ∧
 (FnW Tryz.prog Zbj ⟨[(Value.slice (if b2c = x61l then b2a else Option.map (fun a => Addr.add a (x61l * 1)) b2a) (b2n - x61l) (b2c - x61l))]⟩ H96 fun x62v_5 H110 =>
 ∃ x62_5 : Int, x62v_5 = (Value.int .i64 x62_5) ∧
 Ze bs H21 H110 ∧ (NewW H110 (Obj.cells ⟨[]⟩ Zf) fun x67b_5 H111 =>
 FnW Tryz.prog Zbj ⟨[(Value.slice (if b2c = x64l then b2a else Option.map (fun a => Addr.add a (x64l * 1)) b2a) (b2n - x64l) (b2c - x64l))]⟩ H111 fun x65v_5 H112 =>
 ∃ x65_5 : Int, x65v_5 = (Value.int .i64 x65_5) ∧
 Ze bs H21 H112 ∧ AppW Tryz.prog #[Zi, Zi] Zi [(Value.slice (some ⟨x67b_5, 0, none⟩) 0 0), (Value.slice (if b2c = x70l then b2a else Option.map (fun a => Addr.add a (x70l * 1)) b2a) (b2n - x70l) (b2c - x70l))] H112 fun x71v_5 H113 =>
 ∃ (x71a_5 : Option Addr) (x71n_5 x71c_5 : Nat), x71v_5 = (Value.slice x71a_5 x71n_5 x71c_5) ∧
 Ze bs H21 H113 ∧ Za H113 ⟨x6b, 0, none⟩ (Value.int .i64 x45_1) fun H114 =>
 Za H114 ⟨x6b, 1, none⟩ (Value.int .i64 x48_2) fun H115 =>
 Za H115 ⟨x6b, 2, none⟩ (Value.int .u32 x51_3) fun H116 =>
 Za H116 ⟨x6b, 3, none⟩ (Value.int .u32 x54_4) fun H117 =>
 Za H117 ⟨x6b, 4, none⟩ (Value.int .i64 (IntKind.wrap .i64 (Zz .u8 x57 63))) fun H118 =>
 Za H118 ⟨x6b, 5, none⟩ (Value.int .i64 x62_5) fun H119 =>
 Za H119 ⟨x6b, 6, none⟩ (Value.int .i64 x65_5) fun H120 =>
 Za H120 ⟨x6b, 7, none⟩ (Value.int .i64 x39r0) fun H121 =>
 Za H121 ⟨x6b, 8, none⟩ (Value.slice x71a_5 x71n_5 x71c_5) fun H122 =>
 ∃ r0c0_8 : Int, H122.cell ⟨x6b, 0, none⟩ = some (Value.int .i64 r0c0_8) ∧ ∃ r0c1_8 : Int, H122.cell ⟨x6b, 1, none⟩ = some (Value.int .i64 r0c1_8) ∧ ∃ r0c2_8 : Int, H122.cell ⟨x6b, 2, none⟩ = some (Value.int .u32 r0c2_8) ∧ ∃ r0c3_8 : Int, H122.cell ⟨x6b, 3, none⟩ = some (Value.int .u32 r0c3_8) ∧ ∃ r0c4_8 : Int, H122.cell ⟨x6b, 4, none⟩ = some (Value.int .i64 r0c4_8) ∧ ∃ r0c5_8 : Int, H122.cell ⟨x6b, 5, none⟩ = some (Value.int .i64 r0c5_8) ∧ ∃ r0c6_8 : Int, H122.cell ⟨x6b, 6, none⟩ = some (Value.int .i64 r0c6_8) ∧ ∃ r0c7_8 : Int, H122.cell ⟨x6b, 7, none⟩ = some (Value.int .i64 r0c7_8) ∧ ∃ (r0c8a_8 : Option Addr) (r0c8n_8 r0c8c_8 : Nat), H122.cell ⟨x6b, 8, none⟩ = some (Value.slice r0c8a_8 r0c8n_8 r0c8c_8) ∧ R (Value.tuple ⟨[(Value.agg ⟨[(Value.int .i64 r0c0_8), (Value.int .i64 r0c1_8), (Value.int .u32 r0c2_8), (Value.int .u32 r0c3_8), (Value.int .i64 r0c4_8), (Value.int .i64 r0c5_8), (Value.int .i64 r0c6_8), (Value.int .i64 r0c7_8), (Value.slice r0c8a_8 r0c8n_8 r0c8c_8)]⟩), (Value.int .i64 0)]⟩) H122) ∧
 (FnW Tryz.prog Zbj ⟨[(Value.slice (if b2c = x64l then b2a else Option.map (fun a => Addr.add a (x64l * 1)) b2a) (b2n - x64l) (b2c - x64l))]⟩ H110 fun x65v_6 H123 =>
 ∃ x65_6 : Int, x65v_6 = (Value.int .i64 x65_6) ∧
 Ze bs H21 H123 ∧ NewW H123 (Obj.cells ⟨[]⟩ Zf) fun x67b_6 H124 =>
 AppW Tryz.prog #[Zi, Zi] Zi [(Value.slice (some ⟨x67b_6, 0, none⟩) 0 0), (Value.slice (if b2c = x70l then b2a else Option.map (fun a => Addr.add a (x70l * 1)) b2a) (b2n - x70l) (b2c - x70l))] H124 fun x71v_6 H125 =>
 ∃ (x71a_6 : Option Addr) (x71n_6 x71c_6 : Nat), x71v_6 = (Value.slice x71a_6 x71n_6 x71c_6) ∧
 Ze bs H21 H125 ∧ Za H125 ⟨x6b, 0, none⟩ (Value.int .i64 x45_1) fun H126 =>
 Za H126 ⟨x6b, 1, none⟩ (Value.int .i64 x48_2) fun H127 =>
 Za H127 ⟨x6b, 2, none⟩ (Value.int .u32 x51_3) fun H128 =>
 Za H128 ⟨x6b, 3, none⟩ (Value.int .u32 x54_4) fun H129 =>
 Za H129 ⟨x6b, 4, none⟩ (Value.int .i64 (IntKind.wrap .i64 (Zz .u8 x57 63))) fun H130 =>
 Za H130 ⟨x6b, 5, none⟩ (Value.int .i64 x62_5) fun H131 =>
 Za H131 ⟨x6b, 6, none⟩ (Value.int .i64 x65_6) fun H132 =>
 Za H132 ⟨x6b, 7, none⟩ (Value.int .i64 x39r0) fun H133 =>
 Za H133 ⟨x6b, 8, none⟩ (Value.slice x71a_6 x71n_6 x71c_6) fun H134 =>
 ∃ r0c0_9 : Int, H134.cell ⟨x6b, 0, none⟩ = some (Value.int .i64 r0c0_9) ∧ ∃ r0c1_9 : Int, H134.cell ⟨x6b, 1, none⟩ = some (Value.int .i64 r0c1_9) ∧ ∃ r0c2_9 : Int, H134.cell ⟨x6b, 2, none⟩ = some (Value.int .u32 r0c2_9) ∧ ∃ r0c3_9 : Int, H134.cell ⟨x6b, 3, none⟩ = some (Value.int .u32 r0c3_9) ∧ ∃ r0c4_9 : Int, H134.cell ⟨x6b, 4, none⟩ = some (Value.int .i64 r0c4_9) ∧ ∃ r0c5_9 : Int, H134.cell ⟨x6b, 5, none⟩ = some (Value.int .i64 r0c5_9) ∧ ∃ r0c6_9 : Int, H134.cell ⟨x6b, 6, none⟩ = some (Value.int .i64 r0c6_9) ∧ ∃ r0c7_9 : Int, H134.cell ⟨x6b, 7, none⟩ = some (Value.int .i64 r0c7_9) ∧ ∃ (r0c8a_9 : Option Addr) (r0c8n_9 r0c8c_9 : Nat), H134.cell ⟨x6b, 8, none⟩ = some (Value.slice r0c8a_9 r0c8n_9 r0c8c_9) ∧ R (Value.tuple ⟨[(Value.agg ⟨[(Value.int .i64 r0c0_9), (Value.int .i64 r0c1_9), (Value.int .u32 r0c2_9), (Value.int .u32 r0c3_9), (Value.int .i64 r0c4_9), (Value.int .i64 r0c5_9), (Value.int .i64 r0c6_9), (Value.int .i64 r0c7_9), (Value.slice r0c8a_9 r0c8n_9 r0c8c_9)]⟩), (Value.int .i64 0)]⟩) H134))))))))
def Zxn (from0 : Int) (to1 : Int) (b2a : Option Addr) (b2n : Nat) (b2c : Nat) (H : Heap) (R : Value -> Heap -> Prop) : Prop :=
 NewW H (Obj.cells ⟨[(Value.int .i64 0), (Value.int .i64 0), (Value.int .u32 0), (Value.int .u32 0), (Value.int .i64 0), (Value.int .i64 0), (Value.int .i64 0), (Value.int .i64 0), (Value.slice none 0 0)]⟩ Zl) fun x6b H1 =>
 IfB (decide (((b2n : Int) : Int) < 20))
 (Za H1 ⟨x6b, 0, none⟩ (Value.int .i64 0) fun H2 =>
 Za H2 ⟨x6b, 1, none⟩ (Value.int .i64 0) fun H3 =>
 Za H3 ⟨x6b, 2, none⟩ (Value.int .u32 0) fun H4 =>
 Za H4 ⟨x6b, 3, none⟩ (Value.int .u32 0) fun H5 =>
 Za H5 ⟨x6b, 4, none⟩ (Value.int .i64 0) fun H6 =>
 Za H6 ⟨x6b, 5, none⟩ (Value.int .i64 0) fun H7 =>
 Za H7 ⟨x6b, 6, none⟩ (Value.int .i64 0) fun H8 =>
 Za H8 ⟨x6b, 7, none⟩ (Value.int .i64 0) fun H9 =>
 Za H9 ⟨x6b, 8, none⟩ (Value.slice none 0 0) fun H10 =>
 ∃ r0c0 : Int, H10.cell ⟨x6b, 0, none⟩ = some (Value.int .i64 r0c0) ∧ ∃ r0c1 : Int, H10.cell ⟨x6b, 1, none⟩ = some (Value.int .i64 r0c1) ∧ ∃ r0c2 : Int, H10.cell ⟨x6b, 2, none⟩ = some (Value.int .u32 r0c2) ∧ ∃ r0c3 : Int, H10.cell ⟨x6b, 3, none⟩ = some (Value.int .u32 r0c3) ∧ ∃ r0c4 : Int, H10.cell ⟨x6b, 4, none⟩ = some (Value.int .i64 r0c4) ∧ ∃ r0c5 : Int, H10.cell ⟨x6b, 5, none⟩ = some (Value.int .i64 r0c5) ∧ ∃ r0c6 : Int, H10.cell ⟨x6b, 6, none⟩ = some (Value.int .i64 r0c6) ∧ ∃ r0c7 : Int, H10.cell ⟨x6b, 7, none⟩ = some (Value.int .i64 r0c7) ∧ ∃ (r0c8a : Option Addr) (r0c8n r0c8c : Nat), H10.cell ⟨x6b, 8, none⟩ = some (Value.slice r0c8a r0c8n r0c8c) ∧ R (Value.tuple ⟨[(Value.agg ⟨[(Value.int .i64 r0c0), (Value.int .i64 r0c1), (Value.int .u32 r0c2), (Value.int .u32 r0c3), (Value.int .i64 r0c4), (Value.int .i64 r0c5), (Value.int .i64 r0c6), (Value.int .i64 r0c7), (Value.slice r0c8a r0c8n r0c8c)]⟩), (Value.int .i64 110)]⟩) H10)
 (NilP b2a fun x15q =>
 InB 12 b2n fun x15i =>
 elemAt x15q x15i 1 fun x15p =>
 ∃ x16 : Int, H1.cell x15p = some (Value.int .u8 x16) ∧
 (0 : Int) <= 4 ∧
 IfB (decide (((IntKind.wrap .i64 (4 * (IntKind.wrap .i64 (Int.fdiv x16 (2 ^ (min (4 : Int).toNat (IntKind.bits .u8))))))) : Int) < 20))
 (Zmp b2a b2n b2c x6b x16 true H1 R)
 (IfB (decide (((IntKind.wrap .i64 (4 * (IntKind.wrap .i64 (Int.fdiv x16 (2 ^ (min (4 : Int).toNat (IntKind.bits .u8))))))) : Int) > (b2n : Int)))
 (Zmp b2a b2n b2c x6b x16 true H1 R)
 (FnW Tryz.prog Zjx ⟨[(Value.int .u32 from0), (Value.int .u32 to1), (Value.slice b2a b2n b2c)]⟩ H1 fun x32v H135 =>
 ∃ x32 : Int, x32v = (Value.int .u32 x32) ∧
 Zmp b2a b2n b2c x6b x16 ((x32 : Int) != 65535) H135 R)))
theorem Zbsi (from0 : Int) (to1 : Int) (b2a : Option Addr) (b2n : Nat) (b2c : Nat) (H : Heap) (R : Value -> Heap -> Prop) : Zxn from0 to1 b2a b2n b2c H R = Zc Tryz.prog Zbcp (Zb Tryz.f26) (env0 [(Value.int .u32 from0), (Value.int .u32 to1), (Value.slice b2a b2n b2c)]) H (RetW Tryz.prog Tryz.f26.results.toList R) := by kernel_rfl
theorem Zcig (from0 : Int) (to1 : Int) (b2a : Option Addr) (b2n : Nat) (b2c : Nat) {H : Heap} {R : Value -> Heap -> Prop} (h : Zxn from0 to1 b2a b2n b2c H fun v H1 => ∀ H2, Shut H H1 H2 -> R v H2) : FnW Tryz.prog Zmz ⟨[(Value.int .u32 from0), (Value.int .u32 to1), (Value.slice b2a b2n b2c)]⟩ H R := FnW.of_code Zboy (by kernel_rfl) (Eq.mp (Zbsi from0 to1 b2a b2n b2c H _) h)
def Zbdr : Plan := ⟨[], [], [], []⟩
theorem Zbsa : Known Tryz.prog Zkb Tryz.f28 Zbdr (Zb Tryz.f28) := by refine ⟨Tryz.func28, ?_, ?_, ?_, ?_, ?_⟩ <;> kernel_rfl
def Zzv (s0b : Nat) (now1 : Int) (H : Heap) (R : Value -> Heap -> Prop) : Prop :=
 FnW Tryz.prog Zjp ⟨[(Value.pointer (some ⟨s0b, 0, none⟩))]⟩ H fun x7v H1 =>
 ∃ x7 : Bool, x7v = (Value.bool x7) ∧
 IfB (!x7)
 (R (Value.int .i64 1) H1)
 (∃ x14 : Int, H1.cell ⟨s0b, 6, none⟩ = some (Value.int .i64 x14) ∧
 IfB (decide ((now1 : Int) < x14))
 (R (Value.int .i64 2) H1)
 (R (Value.int .i64 0) H1))
theorem Zbvw (s0b : Nat) (now1 : Int) (H : Heap) (R : Value -> Heap -> Prop) : Zzv s0b now1 H R = Zc Tryz.prog Zbdr (Zb Tryz.f28) (env0 [(Value.pointer (some ⟨s0b, 0, none⟩)), (Value.int .i64 now1)]) H (RetW Tryz.prog Tryz.f28.results.toList R) := by kernel_rfl
theorem Zbrm (s0b : Nat) (now1 : Int) {H : Heap} {R : Value -> Heap -> Prop} (h : Zzv s0b now1 H fun v H1 => ∀ H2, Shut H H1 H2 -> R v H2) : FnW Tryz.prog Zkb ⟨[(Value.pointer (some ⟨s0b, 0, none⟩)), (Value.int .i64 now1)]⟩ H R := FnW.of_code Zbsa (by kernel_rfl) (Eq.mp (Zbvw s0b now1 H _) h)
def Zbmx : Plan := ⟨[], [], [], []⟩
theorem Zcgq : Known Tryz.prog Zif Tryz.f29 Zbmx (Zb Tryz.f29) := by refine ⟨Tryz.func29, ?_, ?_, ?_, ?_, ?_⟩ <;> kernel_rfl
def Ztw (n0 : Int) (H : Heap) (R : Value -> Heap -> Prop) : Prop :=
 IfB (decide ((n0 : Int) ≥ 1))
 (R (Value.bool (decide ((n0 : Int) <= 65535))) H)
 (R (Value.bool false) H)
theorem Zbow (n0 : Int) (H : Heap) (R : Value -> Heap -> Prop) : Ztw n0 H R = Zc Tryz.prog Zbmx (Zb Tryz.f29) (env0 [(Value.int .i64 n0)]) H (RetW Tryz.prog Tryz.f29.results.toList R) := by kernel_rfl
theorem Zboj (n0 : Int) {H : Heap} {R : Value -> Heap -> Prop} (h : Ztw n0 H fun v H1 => ∀ H2, Shut H H1 H2 -> R v H2) : FnW Tryz.prog Zif ⟨[(Value.int .i64 n0)]⟩ H R := FnW.of_code Zcgq (by kernel_rfl) (Eq.mp (Zbow n0 H _) h)
def Zbcj : Plan := ⟨[], [], [], []⟩
theorem Zcgt : Known Tryz.prog Zkt Tryz.f31 Zbcj (Zb Tryz.f31) := by refine ⟨Tryz.func31, ?_, ?_, ?_, ?_, ?_⟩ <;> kernel_rfl
def Zwu (s0b : Nat) (H : Heap) (R : Value -> Heap -> Prop) : Prop :=
 ∃ x6 : Int, H.cell ⟨s0b, 1, none⟩ = some (Value.int .u32 x6) ∧
 ∃ x10 : Int, H.cell ⟨s0b, 5, none⟩ = some (Value.int .i64 x10) ∧
 FnW Tryz.prog Zcv ⟨[(Value.int .u32 x6), (Value.int .i64 (IntKind.wrap .i64 (64000 * (IntKind.wrap .i64 (x10 + 1)))))]⟩ H fun x13v H1 =>
 ∃ x13 : Int, x13v = (Value.int .u32 x13) ∧
 R (Value.int .u32 x13) H1
theorem Zcel (s0b : Nat) (H : Heap) (R : Value -> Heap -> Prop) : Zwu s0b H R = Zc Tryz.prog Zbcj (Zb Tryz.f31) (env0 [(Value.pointer (some ⟨s0b, 0, none⟩))]) H (RetW Tryz.prog Tryz.f31.results.toList R) := by kernel_rfl
theorem Zcih (s0b : Nat) {H : Heap} {R : Value -> Heap -> Prop} (h : Zwu s0b H fun v H1 => ∀ H2, Shut H H1 H2 -> R v H2) : FnW Tryz.prog Zkt ⟨[(Value.pointer (some ⟨s0b, 0, none⟩))]⟩ H R := FnW.of_code Zcgt (by kernel_rfl) (Eq.mp (Zcel s0b H _) h)
def Zbgj : Plan := ⟨[], [], [], []⟩
theorem Zbux : Known Tryz.prog Zkr Tryz.f32 Zbgj (Zb Tryz.f32) := by refine ⟨Tryz.func32, ?_, ?_, ?_, ?_, ?_⟩ <;> kernel_rfl
def Zvb (s0b : Nat) (k1c0 : Int) (k1c1 : Int) (k1c2 : Int) (c2b : Nat) (c2o : Nat) (H : Heap) (R : Value -> Heap -> Prop) : Prop :=
 NewW H (Obj.cells ⟨[(Value.int .u32 k1c0), (Value.int .i64 k1c1), (Value.int .i64 k1c2)]⟩ Zeo) fun k4b H1 =>
 ∃ x11 : Int, H1.cell ⟨s0b, 5, none⟩ = some (Value.int .i64 x11) ∧
 Za H1 ⟨s0b, 5, none⟩ (Value.int .i64 (IntKind.wrap .i64 (x11 + 1))) fun H2 =>
 ∃ x15c0 : Int, H2.cell ⟨k4b, 0, none⟩ = some (Value.int .u32 x15c0) ∧ ∃ x15c1 : Int, H2.cell ⟨k4b, 1, none⟩ = some (Value.int .i64 x15c1) ∧ ∃ x15c2 : Int, H2.cell ⟨k4b, 2, none⟩ = some (Value.int .i64 x15c2) ∧ ∃ x19 : Int, H2.cell ⟨s0b, 5, none⟩ = some (Value.int .i64 x19) ∧
 NewW H2 (Obj.cells ⟨[(Value.int .u32 x15c0), (Value.int .i64 x15c1), (Value.int .i64 x15c2), (Value.int .i64 x19), (Value.pointer (some ⟨c2b, c2o, none⟩))]⟩ Ztu) fun x22b H3 =>
 ∃ x26 : Value, H3.cell ⟨s0b, 3, none⟩ = some x26 ∧
 ∃ x27c0 : Int, H3.cell ⟨k4b, 0, none⟩ = some (Value.int .u32 x27c0) ∧ ∃ x27c1 : Int, H3.cell ⟨k4b, 1, none⟩ = some (Value.int .i64 x27c1) ∧ ∃ x27c2 : Int, H3.cell ⟨k4b, 2, none⟩ = some (Value.int .i64 x27c2) ∧ ∃ x31 : Value, H3.cell ⟨s0b, 4, none⟩ = some x31 ∧
 ∃ x35 : Int, H3.cell ⟨x22b, 3, none⟩ = some (Value.int .i64 x35) ∧
 SemW Tryz.prog (Instr.mapEntry Zfe x26 (Value.agg ⟨[(Value.int .u32 x27c0), (Value.int .i64 x27c1), (Value.int .i64 x27c2)]⟩)) H3 fun x38v H4 =>
 ∃ (x38z : Value) (x38n : Int), x38v = Value.tuple ⟨[x38z, Value.int .i64 x38n]⟩ ∧
 EsW Tryz.prog Zfe x26 (Value.int .i64 x38n) (Value.pointer (some ⟨x22b, 0, none⟩)) H4 fun x0v H5 =>
 SemW Tryz.prog (Instr.mapEntry Zel x31 (Value.int .i64 x35)) H5 fun x40v H6 =>
 ∃ (x40z : Value) (x40n : Int), x40v = Value.tuple ⟨[x40z, Value.int .i64 x40n]⟩ ∧
 EsW Tryz.prog Zel x31 (Value.int .i64 x40n) (Value.pointer (some ⟨x22b, 0, none⟩)) H6 fun x0v_1 H7 =>
 R (Value.pointer (some ⟨x22b, 0, none⟩)) H7
theorem Zchr (s0b : Nat) (k1c0 : Int) (k1c1 : Int) (k1c2 : Int) (c2b : Nat) (c2o : Nat) (H : Heap) (R : Value -> Heap -> Prop) : Zvb s0b k1c0 k1c1 k1c2 c2b c2o H R = Zc Tryz.prog Zbgj (Zb Tryz.f32) (env0 [(Value.pointer (some ⟨s0b, 0, none⟩)), (Value.agg ⟨[(Value.int .u32 k1c0), (Value.int .i64 k1c1), (Value.int .i64 k1c2)]⟩), (Value.pointer (some ⟨c2b, c2o, none⟩))]) H (RetW Tryz.prog Tryz.f32.results.toList R) := by kernel_rfl
theorem Zbor (s0b : Nat) (k1c0 : Int) (k1c1 : Int) (k1c2 : Int) (c2b : Nat) (c2o : Nat) {H : Heap} {R : Value -> Heap -> Prop} (h : Zvb s0b k1c0 k1c1 k1c2 c2b c2o H fun v H1 => ∀ H2, Shut H H1 H2 -> R v H2) : FnW Tryz.prog Zkr ⟨[(Value.pointer (some ⟨s0b, 0, none⟩)), (Value.agg ⟨[(Value.int .u32 k1c0), (Value.int .i64 k1c1), (Value.int .i64 k1c2)]⟩), (Value.pointer (some ⟨c2b, c2o, none⟩))]⟩ H R := FnW.of_code Zbux (by kernel_rfl) (Eq.mp (Zchr s0b k1c0 k1c1 k1c2 c2b c2o H _) h)
def Zbbi : Plan := ⟨[], [(3, [7, 14], [.slice, .int .i64], [0, 1, 12, 13])], [], []⟩
theorem Zbqq : Known Tryz.prog Zdt Tryz.f33 Zbbi (Zb Tryz.f33) := by refine ⟨Tryz.func33, ?_, ?_, ?_, ?_, ?_⟩ <;> kernel_rfl
def Zbic (s0b : Nat) (to1 : Int) (l2a : Option Addr) (l2n : Nat) (l2c : Nat) (out7a : Option Addr) (out7n : Nat) (out7c : Nat) (x14 : Int) (H1 : Heap) (next3 : ((Option Addr × Nat × Nat) × Int × Unit) -> Heap -> Prop) (R : Value -> Heap -> Prop) : Prop :=
 IfB (decide ((x14 : Int) < (l2n : Int)))
 (NilP l2a fun x16q =>
 InB x14 l2n fun x16i =>
 elemAt x16q x16i 9 fun x16p =>
 ∃ x17c0 : Int, H1.cell x16p = some (Value.int .i64 x17c0) ∧ ∃ x17c1 : Int, H1.cell ⟨x16p.block, x16p.off + 1, none⟩ = some (Value.int .i64 x17c1) ∧ ∃ x17c2 : Int, H1.cell ⟨x16p.block, x16p.off + 2, none⟩ = some (Value.int .u32 x17c2) ∧ ∃ x17c3 : Int, H1.cell ⟨x16p.block, x16p.off + 3, none⟩ = some (Value.int .u32 x17c3) ∧ ∃ x17c4 : Int, H1.cell ⟨x16p.block, x16p.off + 4, none⟩ = some (Value.int .i64 x17c4) ∧ ∃ x17c5 : Int, H1.cell ⟨x16p.block, x16p.off + 5, none⟩ = some (Value.int .i64 x17c5) ∧ ∃ x17c6 : Int, H1.cell ⟨x16p.block, x16p.off + 6, none⟩ = some (Value.int .i64 x17c6) ∧ ∃ x17c7 : Int, H1.cell ⟨x16p.block, x16p.off + 7, none⟩ = some (Value.int .i64 x17c7) ∧ ∃ (x17c8a : Option Addr) (x17c8n x17c8c : Nat), H1.cell ⟨x16p.block, x16p.off + 8, none⟩ = some (Value.slice x17c8a x17c8n x17c8c) ∧ NewW H1 (Obj.cells ⟨[(Value.int .i64 0), (Value.int .i64 0), (Value.int .u32 0), (Value.int .u32 0), (Value.int .i64 0), (Value.int .i64 0), (Value.int .i64 0), (Value.int .i64 0), (Value.slice none 0 0)]⟩ Zl) fun x9b H2 =>
 Za H2 ⟨x9b, 0, none⟩ (Value.int .i64 x17c0) fun H3 =>
 Za H3 ⟨x9b, 1, none⟩ (Value.int .i64 x17c1) fun H4 =>
 Za H4 ⟨x9b, 2, none⟩ (Value.int .u32 x17c2) fun H5 =>
 Za H5 ⟨x9b, 3, none⟩ (Value.int .u32 x17c3) fun H6 =>
 Za H6 ⟨x9b, 4, none⟩ (Value.int .i64 x17c4) fun H7 =>
 Za H7 ⟨x9b, 5, none⟩ (Value.int .i64 x17c5) fun H8 =>
 Za H8 ⟨x9b, 6, none⟩ (Value.int .i64 x17c6) fun H9 =>
 Za H9 ⟨x9b, 7, none⟩ (Value.int .i64 x17c7) fun H10 =>
 Za H10 ⟨x9b, 8, none⟩ (Value.slice x17c8a x17c8n x17c8c) fun H11 =>
 ∃ x22 : Int, H11.cell ⟨s0b, 0, none⟩ = some (Value.int .u32 x22) ∧
 ∃ x24c0 : Int, H11.cell ⟨x9b, 0, none⟩ = some (Value.int .i64 x24c0) ∧ ∃ x24c1 : Int, H11.cell ⟨x9b, 1, none⟩ = some (Value.int .i64 x24c1) ∧ ∃ x24c2 : Int, H11.cell ⟨x9b, 2, none⟩ = some (Value.int .u32 x24c2) ∧ ∃ x24c3 : Int, H11.cell ⟨x9b, 3, none⟩ = some (Value.int .u32 x24c3) ∧ ∃ x24c4 : Int, H11.cell ⟨x9b, 4, none⟩ = some (Value.int .i64 x24c4) ∧ ∃ x24c5 : Int, H11.cell ⟨x9b, 5, none⟩ = some (Value.int .i64 x24c5) ∧ ∃ x24c6 : Int, H11.cell ⟨x9b, 6, none⟩ = some (Value.int .i64 x24c6) ∧ ∃ x24c7 : Int, H11.cell ⟨x9b, 7, none⟩ = some (Value.int .i64 x24c7) ∧ ∃ (x24c8a : Option Addr) (x24c8n x24c8c : Nat), H11.cell ⟨x9b, 8, none⟩ = some (Value.slice x24c8a x24c8n x24c8c) ∧ FnW Tryz.prog Ziz ⟨[(Value.int .u32 x22), (Value.int .u32 to1), (Value.agg ⟨[(Value.int .i64 x24c0), (Value.int .i64 x24c1), (Value.int .u32 x24c2), (Value.int .u32 x24c3), (Value.int .i64 x24c4), (Value.int .i64 x24c5), (Value.int .i64 x24c6), (Value.int .i64 x24c7), (Value.slice x24c8a x24c8n x24c8c)]⟩)]⟩ H11 fun x25v H12 =>
 ∃ (x25r0a : Option Addr) (x25r0n x25r0c : Nat), ∃ x25r1 : Int, x25v = (Value.tuple ⟨[(Value.slice x25r0a x25r0n x25r0c), (Value.int .i64 x25r1)]⟩) ∧
 NewW H12 (Obj.cells ⟨[(Value.int .u32 to1), (Value.slice x25r0a x25r0n x25r0c)]⟩ Zea) fun x32b H13 =>
 AppW Tryz.prog #[Zka, Zka] Zka [(Value.slice out7a out7n out7c), (Value.slice (some ⟨x32b, 0, none⟩) 1 1)] H13 fun x33v H14 =>
 ∃ (x33a : Option Addr) (x33n x33c : Nat), x33v = (Value.slice x33a x33n x33c) ∧
 next3 ((x33a, x33n, x33c), ((IntKind.wrap .i64 (x14 + 1)), ())) H14)
 (R (Value.slice out7a out7n out7c) H1)
def Zxc (s0b : Nat) (to1 : Int) (l2a : Option Addr) (l2n : Nat) (l2c : Nat) (H : Heap) (R : Value -> Heap -> Prop) : Prop :=
 Zci ((Option Addr × Nat × Nat) × Int × Unit) ((none, 0, 0), (0, ())) H fun x H next => ∀ _g : Env, Zbic s0b to1 l2a l2n l2c x.1.1 x.1.2.1 x.1.2.2 x.2.1 H next R
theorem Zbpz (s0b : Nat) (to1 : Int) (l2a : Option Addr) (l2n : Nat) (l2c : Nat) (H : Heap) (R : Value -> Heap -> Prop) : Zxc s0b to1 l2a l2n l2c H R = Zc Tryz.prog Zbbi (Zb Tryz.f33) (env0 [(Value.pointer (some ⟨s0b, 0, none⟩)), (Value.int .u32 to1), (Value.slice l2a l2n l2c)]) H (RetW Tryz.prog Tryz.f33.results.toList R) := by kernel_rfl
theorem Zcew (s0b : Nat) (to1 : Int) (l2a : Option Addr) (l2n : Nat) (l2c : Nat) {H : Heap} {R : Value -> Heap -> Prop} (h : Zxc s0b to1 l2a l2n l2c H fun v H1 => ∀ H2, Shut H H1 H2 -> R v H2) : FnW Tryz.prog Zdt ⟨[(Value.pointer (some ⟨s0b, 0, none⟩)), (Value.int .u32 to1), (Value.slice l2a l2n l2c)]⟩ H R := FnW.of_code Zbqq (by kernel_rfl) (Eq.mp (Zbpz s0b to1 l2a l2n l2c H _) h)
def Zbkh : Plan := ⟨[(1, [0, 1, 2, 3, 5, 6, 7, 8, 4, 9, 10, 11], [11])], [], [], []⟩
theorem Zbsv : Known Tryz.prog Zkz Tryz.f45 Zbkh (Zb Tryz.f45) := by refine ⟨Tryz.func45, ?_, ?_, ?_, ?_, ?_⟩ <;> kernel_rfl
def Zyn (o0b : Nat) (H : Heap) (R : Value -> Heap -> Prop) : Prop :=
 NewW H (Obj.cells ⟨[(Value.int .i64 0), (Value.int .i64 0)]⟩ Zfa) fun x2b H1 =>
 ∃ bs : List Nat, (∀ b ∈ bs, ∃ o, H1 b = some o) ∧
 ∃ x6 : Option Addr, H1.cell ⟨o0b, 4, none⟩ = some (Value.pointer x6) ∧
 o0b ∈ bs ∧ ∃ x11 : Option Addr, H1.cell ⟨o0b, 4, none⟩ = some (Value.pointer x11) ∧
 FnW Tryz.prog Zkh ⟨[(Value.pointer x6)]⟩ H1 fun x7v H2 =>
 ∃ x7 : Int, x7v = (Value.int .i64 x7) ∧
 Ze bs H1 H2 ∧ FnW Tryz.prog Zno ⟨[(Value.pointer x11)]⟩ H2 fun x12v H3 =>
 ∃ x12 : Int, x12v = (Value.int .i64 x12) ∧
 Za H3 ⟨x2b, 0, none⟩ (Value.int .i64 x7) fun H4 =>
 Za H4 ⟨x2b, 1, none⟩ (Value.int .i64 x12) fun H5 =>
 ∃ r0c0 : Int, H5.cell ⟨x2b, 0, none⟩ = some (Value.int .i64 r0c0) ∧ ∃ r0c1 : Int, H5.cell ⟨x2b, 1, none⟩ = some (Value.int .i64 r0c1) ∧ R (Value.agg ⟨[(Value.int .i64 r0c0), (Value.int .i64 r0c1)]⟩) H5
theorem Zbox (o0b : Nat) (H : Heap) (R : Value -> Heap -> Prop) : Zyn o0b H R = Zc Tryz.prog Zbkh (Zb Tryz.f45) (env0 [(Value.pointer (some ⟨o0b, 0, none⟩))]) H (RetW Tryz.prog Tryz.f45.results.toList R) := by kernel_rfl
theorem Zbte (o0b : Nat) {H : Heap} {R : Value -> Heap -> Prop} (h : Zyn o0b H fun v H1 => ∀ H2, Shut H H1 H2 -> R v H2) : FnW Tryz.prog Zkz ⟨[(Value.pointer (some ⟨o0b, 0, none⟩))]⟩ H R := FnW.of_code Zbsv (by kernel_rfl) (Eq.mp (Zbox o0b H _) h)
def Zbkc : Plan := ⟨[], [], [], []⟩
theorem Zbus : Known Tryz.prog Zpc Tryz.f47 Zbkc (Zb Tryz.f47) := by refine ⟨Tryz.func47, ?_, ?_, ?_, ?_, ?_⟩ <;> kernel_rfl
def Zbjy (o1b : Nat) (o1o : Nat) (l8a_1 : Option Addr) (l8n_1 : Nat) (l8c_1 : Nat) (x47 : Int) (H14 : Heap) (R : Value -> Heap -> Prop) : Prop :=
 IfB (decide ((x47 : Int) <= 5))
 (∃ x53 : Int, H14.cell ⟨o1b, o1o + 3, none⟩ = some (Value.int .i64 x53) ∧
 NewW H14 (Obj.cells ⟨[(Value.int .i64 3), (Value.int .i64 x53)]⟩ Zbe) fun x55b H15 =>
 AppW Tryz.prog #[Zbq, Zbq] Zbq [(Value.slice l8a_1 l8n_1 l8c_1), (Value.slice (some ⟨x55b, 0, none⟩) 1 1)] H15 fun x56v H16 =>
 ∃ (x56a : Option Addr) (x56n x56c : Nat), x56v = (Value.slice x56a x56n x56c) ∧
 R (Value.slice x56a x56n x56c) H16)
 (R (Value.slice l8a_1 l8n_1 l8c_1) H14)
def Zxt (s0b : Nat) (o1b : Nat) (o1o : Nat) (l8a_1 : Option Addr) (l8n_1 : Nat) (l8c_1 : Nat) (x41 : Int) (H17 : Heap) (R : Value -> Heap -> Prop) : Prop :=
 IfB ((x41 : Int) == 0)
 (∃ x62 : Value, H17.cell ⟨s0b, 3, none⟩ = some x62 ∧
 ∃ x66c0 : Int, H17.cell ⟨o1b, o1o, none⟩ = some (Value.int .u32 x66c0) ∧ ∃ x66c1 : Int, H17.cell ⟨o1b, o1o + 1, none⟩ = some (Value.int .i64 x66c1) ∧ ∃ x66c2 : Int, H17.cell ⟨o1b, o1o + 2, none⟩ = some (Value.int .i64 x66c2) ∧ SemW Tryz.prog (Builtin.delete_ #[Zfe, Zeo] T_ ⟨[x62, (Value.agg ⟨[(Value.int .u32 x66c0), (Value.int .i64 x66c1), (Value.int .i64 x66c2)]⟩)]⟩) H17 fun x0v H18 =>
 ∃ x70 : Value, H18.cell ⟨s0b, 4, none⟩ = some x70 ∧
 ∃ x74 : Int, H18.cell ⟨o1b, o1o + 3, none⟩ = some (Value.int .i64 x74) ∧
 SemW Tryz.prog (Builtin.delete_ #[Zel, Zde] T_ ⟨[x70, (Value.int .i64 x74)]⟩) H18 fun x0v_1 H19 =>
 ∃ x79 : Int, H19.cell ⟨o1b, o1o + 3, none⟩ = some (Value.int .i64 x79) ∧
 NewW H19 (Obj.cells ⟨[(Value.int .i64 4), (Value.int .i64 x79)]⟩ Zbe) fun x81b H20 =>
 AppW Tryz.prog #[Zbq, Zbq] Zbq [(Value.slice l8a_1 l8n_1 l8c_1), (Value.slice (some ⟨x81b, 0, none⟩) 1 1)] H20 fun x82v H21 =>
 ∃ (x82a : Option Addr) (x82n x82c : Nat), x82v = (Value.slice x82a x82n x82c) ∧
 R (Value.slice x82a x82n x82c) H21)
 (R (Value.slice l8a_1 l8n_1 l8c_1) H17)
def Zke (s0b : Nat) (o1b : Nat) (o1o : Nat) (was5b : Nat) (l8a_1 : Option Addr) (l8n_1 : Nat) (l8c_1 : Nat) (x41 : Int) (x42 : Bool) (H13 : Heap) (R : Value -> Heap -> Prop) : Prop :=
 IfB x42
 (∃ x47 : Int, H13.cell ⟨was5b, 0, none⟩ = some (Value.int .i64 x47) ∧
 Zbjy o1b o1o l8a_1 l8n_1 l8c_1 x47 H13 R)
 (Zxt s0b o1b o1o l8a_1 l8n_1 l8c_1 x41 H13 R)
def Znc (s0b : Nat) (o1b : Nat) (o1o : Nat) (was5b : Nat) (now7b : Nat) (l8a_1 : Option Addr) (l8n_1 : Nat) (l8c_1 : Nat) (H12 : Heap) (R : Value -> Heap -> Prop) : Prop :=
 ∃ x41 : Int, H12.cell ⟨now7b, 0, none⟩ = some (Value.int .i64 x41) ∧
 IfB ((x41 : Int) == 6)
 (Zke s0b o1b o1o was5b l8a_1 l8n_1 l8c_1 x41 ((x41 : Int) == 6) H12 R)
 (IfB ((x41 : Int) == 7)
 (Zke s0b o1b o1o was5b l8a_1 l8n_1 l8c_1 x41 ((x41 : Int) == 7) H12 R)
 (Zke s0b o1b o1o was5b l8a_1 l8n_1 l8c_1 x41 ((x41 : Int) == 9) H12 R))
def Znq (s0b : Nat) (o1b : Nat) (o1o : Nat) (was5b : Nat) (now7b : Nat) (l8a : Option Addr) (l8n : Nat) (l8c : Nat) (H9 : Heap) (R : Value -> Heap -> Prop) : Prop :=
 ∃ x28 : Int, H9.cell ⟨now7b, 1, none⟩ = some (Value.int .i64 x28) ∧
 ∃ x30 : Int, H9.cell ⟨was5b, 1, none⟩ = some (Value.int .i64 x30) ∧
 IfB (decide ((x28 : Int) > x30))
 (∃ x36 : Int, H9.cell ⟨o1b, o1o + 3, none⟩ = some (Value.int .i64 x36) ∧
 NewW H9 (Obj.cells ⟨[(Value.int .i64 2), (Value.int .i64 x36)]⟩ Zbe) fun x38b H10 =>
 AppW Tryz.prog #[Zbq, Zbq] Zbq [(Value.slice l8a l8n l8c), (Value.slice (some ⟨x38b, 0, none⟩) 1 1)] H10 fun x39v H11 =>
 ∃ (x39a : Option Addr) (x39n x39c : Nat), x39v = (Value.slice x39a x39n x39c) ∧
 Znc s0b o1b o1o was5b now7b x39a x39n x39c H11 R)
 (Znc s0b o1b o1o was5b now7b l8a l8n l8c H9 R)
def Zsf (s0b : Nat) (o1b : Nat) (o1o : Nat) (was5b : Nat) (now7b : Nat) (x18 : Bool) (H6 : Heap) (R : Value -> Heap -> Prop) : Prop :=
 IfB x18
 (∃ x23 : Int, H6.cell ⟨o1b, o1o + 3, none⟩ = some (Value.int .i64 x23) ∧
 NewW H6 (Obj.cells ⟨[(Value.int .i64 1), (Value.int .i64 x23)]⟩ Zbe) fun x25b H7 =>
 AppW Tryz.prog #[Zbq, Zbq] Zbq [(Value.slice none 0 0), (Value.slice (some ⟨x25b, 0, none⟩) 1 1)] H7 fun x26v H8 =>
 ∃ (x26a : Option Addr) (x26n x26c : Nat), x26v = (Value.slice x26a x26n x26c) ∧
 Znq s0b o1b o1o was5b now7b x26a x26n x26c H8 R)
 (Znq s0b o1b o1o was5b now7b none 0 0 H6 R)
def Zwl (s0b : Nat) (o1b : Nat) (o1o : Nat) (was2c0 : Int) (was2c1 : Int) (H : Heap) (R : Value -> Heap -> Prop) : Prop :=
 NewW H (Obj.cells ⟨[(Value.int .i64 was2c0), (Value.int .i64 was2c1)]⟩ Zfa) fun was5b H1 =>
 FnW Tryz.prog Zkz ⟨[(Value.pointer (some ⟨o1b, o1o, none⟩))]⟩ H1 fun x10v H2 =>
 ∃ x10c0 : Int, ∃ x10c1 : Int, x10v = (Value.agg ⟨[(Value.int .i64 x10c0), (Value.int .i64 x10c1)]⟩) ∧
 NewW H2 (Obj.cells ⟨[(Value.int .i64 0), (Value.int .i64 0)]⟩ Zfa) fun now7b H3 =>
 Za H3 ⟨now7b, 0, none⟩ (Value.int .i64 x10c0) fun H4 =>
 Za H4 ⟨now7b, 1, none⟩ (Value.int .i64 x10c1) fun H5 =>
 ∃ x12 : Int, H5.cell ⟨was5b, 0, none⟩ = some (Value.int .i64 x12) ∧
 IfB (decide ((x12 : Int) < 3))
 (∃ x16 : Int, H5.cell ⟨now7b, 0, none⟩ = some (Value.int .i64 x16) ∧
 Zsf s0b o1b o1o was5b now7b (decide ((x16 : Int) ≥ 3)) H5 R)
 (Zsf s0b o1b o1o was5b now7b false H5 R)
theorem Zcfy (s0b : Nat) (o1b : Nat) (o1o : Nat) (was2c0 : Int) (was2c1 : Int) (H : Heap) (R : Value -> Heap -> Prop) : Zwl s0b o1b o1o was2c0 was2c1 H R = Zc Tryz.prog Zbkc (Zb Tryz.f47) (env0 [(Value.pointer (some ⟨s0b, 0, none⟩)), (Value.pointer (some ⟨o1b, o1o, none⟩)), (Value.agg ⟨[(Value.int .i64 was2c0), (Value.int .i64 was2c1)]⟩)]) H (RetW Tryz.prog Tryz.f47.results.toList R) := by kernel_rfl
theorem Zbvn (s0b : Nat) (o1b : Nat) (o1o : Nat) (was2c0 : Int) (was2c1 : Int) {H : Heap} {R : Value -> Heap -> Prop} (h : Zwl s0b o1b o1o was2c0 was2c1 H fun v H1 => ∀ H2, Shut H H1 H2 -> R v H2) : FnW Tryz.prog Zpc ⟨[(Value.pointer (some ⟨s0b, 0, none⟩)), (Value.pointer (some ⟨o1b, o1o, none⟩)), (Value.agg ⟨[(Value.int .i64 was2c0), (Value.int .i64 was2c1)]⟩)]⟩ H R := FnW.of_code Zbus (by kernel_rfl) (Eq.mp (Zcfy s0b o1b o1o was2c0 was2c1 H _) h)
def Zbgt : Plan := ⟨[(8, [0, 1, 2, 3, 4, 5, 6, 7, 8, 9, 10, 11, 12, 13, 14], [39, 40])], [], [], []⟩
theorem Zbxa : Known Tryz.prog Zrv Tryz.f48 Zbgt (Zb Tryz.f48) := by refine ⟨Tryz.func48, ?_, ?_, ?_, ?_, ?_⟩ <;> kernel_rfl
def Zuy (s0b : Nat) (k1c0 : Int) (k1c1 : Int) (k1c2 : Int) (x2c0 : Int) (x2c1 : Int) (x2c2 : Int) (x2c3 : Int) (x2c4 : Int) (x2c5 : Int) (x2c6 : Int) (x2c7 : Int) (x2c8a : Option Addr) (x2c8n : Nat) (x2c8c : Nat) (H : Heap) (R : Value -> Heap -> Prop) : Prop :=
 NewW H (Obj.cells ⟨[(Value.int .u32 k1c0), (Value.int .i64 k1c1), (Value.int .i64 k1c2)]⟩ Zeo) fun k4b H1 =>
 NewW H1 (Obj.cells ⟨[(Value.int .i64 x2c0), (Value.int .i64 x2c1), (Value.int .u32 x2c2), (Value.int .u32 x2c3), (Value.int .i64 x2c4), (Value.int .i64 x2c5), (Value.int .i64 x2c6), (Value.int .i64 x2c7), (Value.slice x2c8a x2c8n x2c8c)]⟩ Zl) fun x5b H2 =>
 ∃ x13c0 : Int, H2.cell ⟨x5b, 0, none⟩ = some (Value.int .i64 x13c0) ∧ ∃ x13c1 : Int, H2.cell ⟨x5b, 1, none⟩ = some (Value.int .i64 x13c1) ∧ ∃ x13c2 : Int, H2.cell ⟨x5b, 2, none⟩ = some (Value.int .u32 x13c2) ∧ ∃ x13c3 : Int, H2.cell ⟨x5b, 3, none⟩ = some (Value.int .u32 x13c3) ∧ ∃ x13c4 : Int, H2.cell ⟨x5b, 4, none⟩ = some (Value.int .i64 x13c4) ∧ ∃ x13c5 : Int, H2.cell ⟨x5b, 5, none⟩ = some (Value.int .i64 x13c5) ∧ ∃ x13c6 : Int, H2.cell ⟨x5b, 6, none⟩ = some (Value.int .i64 x13c6) ∧ ∃ x13c7 : Int, H2.cell ⟨x5b, 7, none⟩ = some (Value.int .i64 x13c7) ∧ ∃ (x13c8a : Option Addr) (x13c8n x13c8c : Nat), H2.cell ⟨x5b, 8, none⟩ = some (Value.slice x13c8a x13c8n x13c8c) ∧ FnW Tryz.prog Zrn ⟨[(Value.pointer (some ⟨s0b, 0, none⟩)), (Value.agg ⟨[(Value.int .i64 x13c0), (Value.int .i64 x13c1), (Value.int .u32 x13c2), (Value.int .u32 x13c3), (Value.int .i64 x13c4), (Value.int .i64 x13c5), (Value.int .i64 x13c6), (Value.int .i64 x13c7), (Value.slice x13c8a x13c8n x13c8c)]⟩)]⟩ H2 fun x14v H3 =>
 ∃ x14 : Bool, x14v = (Value.bool x14) ∧
 IfB (!x14)
 (∃ x17c0 : Int, H3.cell ⟨x5b, 0, none⟩ = some (Value.int .i64 x17c0) ∧ ∃ x17c1 : Int, H3.cell ⟨x5b, 1, none⟩ = some (Value.int .i64 x17c1) ∧ ∃ x17c2 : Int, H3.cell ⟨x5b, 2, none⟩ = some (Value.int .u32 x17c2) ∧ ∃ x17c3 : Int, H3.cell ⟨x5b, 3, none⟩ = some (Value.int .u32 x17c3) ∧ ∃ x17c4 : Int, H3.cell ⟨x5b, 4, none⟩ = some (Value.int .i64 x17c4) ∧ ∃ x17c5 : Int, H3.cell ⟨x5b, 5, none⟩ = some (Value.int .i64 x17c5) ∧ ∃ x17c6 : Int, H3.cell ⟨x5b, 6, none⟩ = some (Value.int .i64 x17c6) ∧ ∃ x17c7 : Int, H3.cell ⟨x5b, 7, none⟩ = some (Value.int .i64 x17c7) ∧ ∃ (x17c8a : Option Addr) (x17c8n x17c8c : Nat), H3.cell ⟨x5b, 8, none⟩ = some (Value.slice x17c8a x17c8n x17c8c) ∧ FnW Tryz.prog Zkp ⟨[(Value.agg ⟨[(Value.int .i64 x17c0), (Value.int .i64 x17c1), (Value.int .u32 x17c2), (Value.int .u32 x17c3), (Value.int .i64 x17c4), (Value.int .i64 x17c5), (Value.int .i64 x17c6), (Value.int .i64 x17c7), (Value.slice x17c8a x17c8n x17c8c)]⟩)]⟩ H3 fun x18v H4 =>
 ∃ x18r0c0 : Int, ∃ x18r0c1 : Int, ∃ x18r0c2 : Int, ∃ x18r0c3 : Int, ∃ x18r0c4 : Int, ∃ x18r0c5 : Int, ∃ x18r0c6 : Int, ∃ x18r0c7 : Int, ∃ (x18r0c8a : Option Addr) (x18r0c8n x18r0c8c : Nat), ∃ x18r1 : Bool, x18v = (Value.tuple ⟨[(Value.agg ⟨[(Value.int .i64 x18r0c0), (Value.int .i64 x18r0c1), (Value.int .u32 x18r0c2), (Value.int .u32 x18r0c3), (Value.int .i64 x18r0c4), (Value.int .i64 x18r0c5), (Value.int .i64 x18r0c6), (Value.int .i64 x18r0c7), (Value.slice x18r0c8a x18r0c8n x18r0c8c)]⟩), (Value.bool x18r1)]⟩) ∧
 NewW H4 (Obj.cells ⟨[(Value.int .i64 0), (Value.int .i64 0), (Value.int .u32 0), (Value.int .u32 0), (Value.int .i64 0), (Value.int .i64 0), (Value.int .i64 0), (Value.int .i64 0), (Value.slice none 0 0)]⟩ Zl) fun r7b H5 =>
 Za H5 ⟨r7b, 0, none⟩ (Value.int .i64 x18r0c0) fun H6 =>
 Za H6 ⟨r7b, 1, none⟩ (Value.int .i64 x18r0c1) fun H7 =>
 Za H7 ⟨r7b, 2, none⟩ (Value.int .u32 x18r0c2) fun H8 =>
 Za H8 ⟨r7b, 3, none⟩ (Value.int .u32 x18r0c3) fun H9 =>
 Za H9 ⟨r7b, 4, none⟩ (Value.int .i64 x18r0c4) fun H10 =>
 Za H10 ⟨r7b, 5, none⟩ (Value.int .i64 x18r0c5) fun H11 =>
 Za H11 ⟨r7b, 6, none⟩ (Value.int .i64 x18r0c6) fun H12 =>
 Za H12 ⟨r7b, 7, none⟩ (Value.int .i64 x18r0c7) fun H13 =>
 Za H13 ⟨r7b, 8, none⟩ (Value.slice x18r0c8a x18r0c8n x18r0c8c) fun H14 =>
 IfB (!x18r1)
 (R (Value.slice none 0 0) H14)
 (∃ x25 : Int, H14.cell ⟨k4b, 0, none⟩ = some (Value.int .u32 x25) ∧
 ∃ x26c0 : Int, H14.cell ⟨r7b, 0, none⟩ = some (Value.int .i64 x26c0) ∧ ∃ x26c1 : Int, H14.cell ⟨r7b, 1, none⟩ = some (Value.int .i64 x26c1) ∧ ∃ x26c2 : Int, H14.cell ⟨r7b, 2, none⟩ = some (Value.int .u32 x26c2) ∧ ∃ x26c3 : Int, H14.cell ⟨r7b, 3, none⟩ = some (Value.int .u32 x26c3) ∧ ∃ x26c4 : Int, H14.cell ⟨r7b, 4, none⟩ = some (Value.int .i64 x26c4) ∧ ∃ x26c5 : Int, H14.cell ⟨r7b, 5, none⟩ = some (Value.int .i64 x26c5) ∧ ∃ x26c6 : Int, H14.cell ⟨r7b, 6, none⟩ = some (Value.int .i64 x26c6) ∧ ∃ x26c7 : Int, H14.cell ⟨r7b, 7, none⟩ = some (Value.int .i64 x26c7) ∧ ∃ (x26c8a : Option Addr) (x26c8n x26c8c : Nat), H14.cell ⟨r7b, 8, none⟩ = some (Value.slice x26c8a x26c8n x26c8c) ∧ NewW H14 (Obj.cells ⟨[(Value.int .i64 x26c0), (Value.int .i64 x26c1), (Value.int .u32 x26c2), (Value.int .u32 x26c3), (Value.int .i64 x26c4), (Value.int .i64 x26c5), (Value.int .i64 x26c6), (Value.int .i64 x26c7), (Value.slice x26c8a x26c8n x26c8c)]⟩ Zl) fun x27b H15 =>
 FnW Tryz.prog Zdt ⟨[(Value.pointer (some ⟨s0b, 0, none⟩)), (Value.int .u32 x25), (Value.slice (some ⟨x27b, 0, none⟩) 1 1)]⟩ H15 fun x28v H16 =>
 ∃ (x28a : Option Addr) (x28n x28c : Nat), x28v = (Value.slice x28a x28n x28c) ∧
 R (Value.slice x28a x28n x28c) H16))
 (∃ x32 : Value, H3.cell ⟨s0b, 4, none⟩ = some x32 ∧
 SemW Tryz.prog (Builtin.len_ #[Zel] Zde ⟨[x32]⟩) H3 fun x33v H17 =>
 ∃ x33 : Int, x33v = (Value.int .i64 x33) ∧
 IfB (decide ((x33 : Int) ≥ 16))
 (R (Value.slice none 0 0) H17)
 (∃ bs : List Nat, (∀ b ∈ bs, ∃ o, H17 b = some o) ∧
 s0b ∈ bs ∧ ∃ x39 : Int, H17.cell ⟨s0b, 6, none⟩ = some (Value.int .i64 x39) ∧
 x5b ∈ bs ∧ ∃ x40c0 : Int, H17.cell ⟨x5b, 0, none⟩ = some (Value.int .i64 x40c0) ∧ ∃ x40c1 : Int, H17.cell ⟨x5b, 1, none⟩ = some (Value.int .i64 x40c1) ∧ ∃ x40c2 : Int, H17.cell ⟨x5b, 2, none⟩ = some (Value.int .u32 x40c2) ∧ ∃ x40c3 : Int, H17.cell ⟨x5b, 3, none⟩ = some (Value.int .u32 x40c3) ∧ ∃ x40c4 : Int, H17.cell ⟨x5b, 4, none⟩ = some (Value.int .i64 x40c4) ∧ ∃ x40c5 : Int, H17.cell ⟨x5b, 5, none⟩ = some (Value.int .i64 x40c5) ∧ ∃ x40c6 : Int, H17.cell ⟨x5b, 6, none⟩ = some (Value.int .i64 x40c6) ∧ ∃ x40c7 : Int, H17.cell ⟨x5b, 7, none⟩ = some (Value.int .i64 x40c7) ∧ ∃ (x40c8a : Option Addr) (x40c8n x40c8c : Nat), H17.cell ⟨x5b, 8, none⟩ = some (Value.slice x40c8a x40c8n x40c8c) ∧ FnW Tryz.prog Zkt ⟨[(Value.pointer (some ⟨s0b, 0, none⟩))]⟩ H17 fun x42v H18 =>
 ∃ x42 : Int, x42v = (Value.int .u32 x42) ∧
 Ze bs H17 H18 ∧ FnW Tryz.prog Zne ⟨[(Value.int .i64 x39), (Value.agg ⟨[(Value.int .i64 x40c0), (Value.int .i64 x40c1), (Value.int .u32 x40c2), (Value.int .u32 x40c3), (Value.int .i64 x40c4), (Value.int .i64 x40c5), (Value.int .i64 x40c6), (Value.int .i64 x40c7), (Value.slice x40c8a x40c8n x40c8c)]⟩), (Value.int .u32 x42)]⟩ H18 fun x43v H19 =>
 ∃ x43r0 : Option Addr, ∃ (x43r1a : Option Addr) (x43r1n x43r1c : Nat), ∃ x43r2 : Int, x43v = (Value.tuple ⟨[(Value.pointer x43r0), (Value.slice x43r1a x43r1n x43r1c), (Value.int .i64 x43r2)]⟩) ∧
 Ze bs H17 H19 ∧ IfB ((x43r2 : Int) != 0)
 (R (Value.slice none 0 0) H19)
 (∃ x50c0 : Int, H19.cell ⟨k4b, 0, none⟩ = some (Value.int .u32 x50c0) ∧ ∃ x50c1 : Int, H19.cell ⟨k4b, 1, none⟩ = some (Value.int .i64 x50c1) ∧ ∃ x50c2 : Int, H19.cell ⟨k4b, 2, none⟩ = some (Value.int .i64 x50c2) ∧ FnW Tryz.prog Zkr ⟨[(Value.pointer (some ⟨s0b, 0, none⟩)), (Value.agg ⟨[(Value.int .u32 x50c0), (Value.int .i64 x50c1), (Value.int .i64 x50c2)]⟩), (Value.pointer x43r0)]⟩ H19 fun x52v H20 =>
 ∃ x52 : Option Addr, x52v = (Value.pointer x52) ∧
 ∃ x55 : Int, H20.cell ⟨k4b, 0, none⟩ = some (Value.int .u32 x55) ∧
 FnW Tryz.prog Zdt ⟨[(Value.pointer (some ⟨s0b, 0, none⟩)), (Value.int .u32 x55), (Value.slice x43r1a x43r1n x43r1c)]⟩ H20 fun x57v H21 =>
 ∃ (x57a : Option Addr) (x57n x57c : Nat), x57v = (Value.slice x57a x57n x57c) ∧
 R (Value.slice x57a x57n x57c) H21)))
theorem Zbvq (s0b : Nat) (k1c0 : Int) (k1c1 : Int) (k1c2 : Int) (x2c0 : Int) (x2c1 : Int) (x2c2 : Int) (x2c3 : Int) (x2c4 : Int) (x2c5 : Int) (x2c6 : Int) (x2c7 : Int) (x2c8a : Option Addr) (x2c8n : Nat) (x2c8c : Nat) (H : Heap) (R : Value -> Heap -> Prop) : Zuy s0b k1c0 k1c1 k1c2 x2c0 x2c1 x2c2 x2c3 x2c4 x2c5 x2c6 x2c7 x2c8a x2c8n x2c8c H R = Zc Tryz.prog Zbgt (Zb Tryz.f48) (env0 [(Value.pointer (some ⟨s0b, 0, none⟩)), (Value.agg ⟨[(Value.int .u32 k1c0), (Value.int .i64 k1c1), (Value.int .i64 k1c2)]⟩), (Value.agg ⟨[(Value.int .i64 x2c0), (Value.int .i64 x2c1), (Value.int .u32 x2c2), (Value.int .u32 x2c3), (Value.int .i64 x2c4), (Value.int .i64 x2c5), (Value.int .i64 x2c6), (Value.int .i64 x2c7), (Value.slice x2c8a x2c8n x2c8c)]⟩)]) H (RetW Tryz.prog Tryz.f48.results.toList R) := by kernel_rfl
theorem Zcdp (s0b : Nat) (k1c0 : Int) (k1c1 : Int) (k1c2 : Int) (x2c0 : Int) (x2c1 : Int) (x2c2 : Int) (x2c3 : Int) (x2c4 : Int) (x2c5 : Int) (x2c6 : Int) (x2c7 : Int) (x2c8a : Option Addr) (x2c8n : Nat) (x2c8c : Nat) {H : Heap} {R : Value -> Heap -> Prop} (h : Zuy s0b k1c0 k1c1 k1c2 x2c0 x2c1 x2c2 x2c3 x2c4 x2c5 x2c6 x2c7 x2c8a x2c8n x2c8c H fun v H1 => ∀ H2, Shut H H1 H2 -> R v H2) : FnW Tryz.prog Zrv ⟨[(Value.pointer (some ⟨s0b, 0, none⟩)), (Value.agg ⟨[(Value.int .u32 k1c0), (Value.int .i64 k1c1), (Value.int .i64 k1c2)]⟩), (Value.agg ⟨[(Value.int .i64 x2c0), (Value.int .i64 x2c1), (Value.int .u32 x2c2), (Value.int .u32 x2c3), (Value.int .i64 x2c4), (Value.int .i64 x2c5), (Value.int .i64 x2c6), (Value.int .i64 x2c7), (Value.slice x2c8a x2c8n x2c8c)]⟩)]⟩ H R := FnW.of_code Zbxa (by kernel_rfl) (Eq.mp (Zbvq s0b k1c0 k1c1 k1c2 x2c0 x2c1 x2c2 x2c3 x2c4 x2c5 x2c6 x2c7 x2c8a x2c8n x2c8c H _) h)
def Zbja : Plan := ⟨[], [], [], []⟩
theorem Zbnr : Known Tryz.prog Zjp Tryz.f59 Zbja (Zb Tryz.f59) := by refine ⟨Tryz.func59, ?_, ?_, ?_, ?_, ?_⟩ <;> kernel_rfl
def Zzf (s0b : Nat) (H : Heap) (R : Value -> Heap -> Prop) : Prop :=
 ∃ x9 : Value, H.cell ⟨s0b, 3, none⟩ = some x9 ∧
 BinW Tryz.prog true .neq Zfe x9 (Value.map none) H fun x10v H1 =>
 R x10v H1
theorem Zbnc (s0b : Nat) (H : Heap) (R : Value -> Heap -> Prop) : Zzf s0b H R = Zc Tryz.prog Zbja (Zb Tryz.f59) (env0 [(Value.pointer (some ⟨s0b, 0, none⟩))]) H (RetW Tryz.prog Tryz.f59.results.toList R) := by kernel_rfl
theorem Zbwg (s0b : Nat) {H : Heap} {R : Value -> Heap -> Prop} (h : Zzf s0b H fun v H1 => ∀ H2, Shut H H1 H2 -> R v H2) : FnW Tryz.prog Zjp ⟨[(Value.pointer (some ⟨s0b, 0, none⟩))]⟩ H R := FnW.of_code Zbnr (by kernel_rfl) (Eq.mp (Zbnc s0b H _) h)
def Zbmc : Plan := ⟨[], [], [], []⟩
theorem Zbnk : Known Tryz.prog Ziu Tryz.f61 Zbmc (Zb Tryz.f61) := by refine ⟨Tryz.func61, ?_, ?_, ?_, ?_, ?_⟩ <;> kernel_rfl
def Zxy (s0b : Nat) (now1 : Int) (id2 : Int) (H : Heap) (R : Value -> Heap -> Prop) : Prop :=
 FnW Tryz.prog Zkb ⟨[(Value.pointer (some ⟨s0b, 0, none⟩)), (Value.int .i64 now1)]⟩ H fun x12v H1 =>
 ∃ x12 : Int, x12v = (Value.int .i64 x12) ∧
 IfB ((x12 : Int) != 0)
 (R (Value.tuple ⟨[(Value.pointer none), (Value.int .i64 x12)]⟩) H1)
 (∃ x19 : Value, H1.cell ⟨s0b, 4, none⟩ = some x19 ∧
 SemW Tryz.prog (Instr.lookup Zel x19 (Value.int .i64 id2) false) H1 fun x21v H2 =>
 ∃ x21 : Option Addr, x21v = (Value.pointer x21) ∧
 IfB x21.isNone
 (R (Value.tuple ⟨[(Value.pointer none), (Value.int .i64 5)]⟩) H2)
 (Za H2 ⟨s0b, 6, none⟩ (Value.int .i64 now1) fun H3 =>
 R (Value.tuple ⟨[(Value.pointer x21), (Value.int .i64 0)]⟩) H3))
theorem Zbyk (s0b : Nat) (now1 : Int) (id2 : Int) (H : Heap) (R : Value -> Heap -> Prop) : Zxy s0b now1 id2 H R = Zc Tryz.prog Zbmc (Zb Tryz.f61) (env0 [(Value.pointer (some ⟨s0b, 0, none⟩)), (Value.int .i64 now1), (Value.int .i64 id2)]) H (RetW Tryz.prog Tryz.f61.results.toList R) := by kernel_rfl
theorem Zcfv (s0b : Nat) (now1 : Int) (id2 : Int) {H : Heap} {R : Value -> Heap -> Prop} (h : Zxy s0b now1 id2 H fun v H1 => ∀ H2, Shut H H1 H2 -> R v H2) : FnW Tryz.prog Ziu ⟨[(Value.pointer (some ⟨s0b, 0, none⟩)), (Value.int .i64 now1), (Value.int .i64 id2)]⟩ H R := FnW.of_code Zbnk (by kernel_rfl) (Eq.mp (Zbyk s0b now1 id2 H _) h)
def Zbcw : Plan := ⟨[], [], [], []⟩
theorem Zbvm : Known Tryz.prog Zkn Tryz.f65 Zbcw (Zb Tryz.f65) := by refine ⟨Tryz.func65, ?_, ?_, ?_, ?_, ?_⟩ <;> kernel_rfl
def Zvo (s0a : Option Addr) (s0n : Nat) (s0c : Nat) (v1 : Int) (H : Heap) (R : Value -> Heap -> Prop) : Prop :=
 FnW Tryz.prog Zban ⟨[(Value.slice s0a s0n s0c), (Value.int .i64 v1)]⟩ H fun x7v H1 =>
 ∃ x7 : Int, x7v = (Value.int .i64 x7) ∧
 R (Value.bool (decide ((x7 : Int) ≥ 0))) H1
theorem Zcix (s0a : Option Addr) (s0n : Nat) (s0c : Nat) (v1 : Int) (H : Heap) (R : Value -> Heap -> Prop) : Zvo s0a s0n s0c v1 H R = Zc Tryz.prog Zbcw (Zb Tryz.f65) (env0 [(Value.slice s0a s0n s0c), (Value.int .i64 v1)]) H (RetW Tryz.prog Tryz.f65.results.toList R) := by kernel_rfl
theorem Zbrn (s0a : Option Addr) (s0n : Nat) (s0c : Nat) (v1 : Int) {H : Heap} {R : Value -> Heap -> Prop} (h : Zvo s0a s0n s0c v1 H fun v H1 => ∀ H2, Shut H H1 H2 -> R v H2) : FnW Tryz.prog Zkn ⟨[(Value.slice s0a s0n s0c), (Value.int .i64 v1)]⟩ H R := FnW.of_code Zbvm (by kernel_rfl) (Eq.mp (Zcix s0a s0n s0c v1 H _) h)
def Zblh : Plan := ⟨[], [(2000000, [0, 4], [.slice, .int .i64], [])], [], []⟩
theorem Zcii : Known Tryz.prog Zox Tryz.f67 Zblh (Zb Tryz.f67) := by refine ⟨Tryz.func67, ?_, ?_, ?_, ?_, ?_⟩ <;> kernel_rfl
def Zpx (o0a_1 : Option Addr) (o0n_1 : Nat) (o0c_1 : Nat) (next2000000 : ((Option Addr × Nat × Nat) × Int × Unit) -> Heap -> Prop) (n4_1 : Int) (H5 : Heap) (R : Value -> Heap -> Prop) : Prop :=
 NilP o0a_1 fun x52q =>
 InB 1 o0n_1 fun x52i =>
 elemAt x52q x52i 1 fun x52p =>
 ∃ x53 : Int, H5.cell x52p = some (Value.int .u8 x53) ∧
 InC x53 o0n_1 fun x54l =>
 next2000000 (((if o0c_1 = x54l then o0a_1 else Option.map (fun a => Addr.add a (x54l * 1)) o0a_1), o0n_1 - x54l, o0c_1 - x54l), (n4_1, ())) H5
def Zlr (o0a_1 : Option Addr) (o0n_1 : Nat) (o0c_1 : Nat) (n4 : Int) (next2000000 : ((Option Addr × Nat × Nat) × Int × Unit) -> Heap -> Prop) (x38 : Bool) (H3 : Heap) (R : Value -> Heap -> Prop) : Prop :=
 IfB x38
 (R (Value.tuple ⟨[(Value.int .i64 0), (Value.bool false)]⟩) H3)
 (NilP o0a_1 fun x40q =>
 InB 0 o0n_1 fun x40i =>
 elemAt x40q x40i 1 fun x40p =>
 ∃ x41 : Int, H3.cell x40p = some (Value.int .u8 x41) ∧
 IfB ((x41 : Int) == 2)
 (NilP o0a_1 fun x44q =>
 InB 1 o0n_1 fun x44i =>
 elemAt x44q x44i 1 fun x44p =>
 ∃ x45 : Int, H3.cell x44p = some (Value.int .u8 x45) ∧
 IfB ((x45 : Int) != 4)
 (R (Value.tuple ⟨[(Value.int .i64 0), (Value.bool false)]⟩) H3)
 (InC 2 o0n_1 fun x48l =>
 FnW Tryz.prog Zbj ⟨[(Value.slice (if o0c_1 = x48l then o0a_1 else Option.map (fun a => Addr.add a (x48l * 1)) o0a_1) (o0n_1 - x48l) (o0c_1 - x48l))]⟩ H3 fun x49v H4 =>
 ∃ x49 : Int, x49v = (Value.int .i64 x49) ∧
 Zpx o0a_1 o0n_1 o0c_1 next2000000 x49 H4 R))
 (Zpx o0a_1 o0n_1 o0c_1 next2000000 n4 H3 R))
def Zny (o0a_1 : Option Addr) (o0n_1 : Nat) (o0c_1 : Nat) (n4 : Int) (next2000000 : ((Option Addr × Nat × Nat) × Int × Unit) -> Heap -> Prop) (x13 : Bool) (H2 : Heap) (R : Value -> Heap -> Prop) : Prop :=
 IfB x13
 (R (Value.tuple ⟨[(Value.int .i64 n4), (Value.bool true)]⟩) H2)
 (NilP o0a_1 fun x16q =>
 InB 0 o0n_1 fun x16i =>
 elemAt x16q x16i 1 fun x16p =>
 ∃ x17 : Int, H2.cell x16p = some (Value.int .u8 x17) ∧
 IfB ((x17 : Int) == 1)
 (InC 1 o0n_1 fun x20l =>
 next2000000 (((if o0c_1 = x20l then o0a_1 else Option.map (fun a => Addr.add a (x20l * 1)) o0a_1), o0n_1 - x20l, o0c_1 - x20l), (n4, ())) H2)
 (IfB (decide (((o0n_1 : Int) : Int) < 2))
 (Zlr o0a_1 o0n_1 o0c_1 n4 next2000000 true H2 R)
 (NilP o0a_1 fun x26q =>
 InB 1 o0n_1 fun x26i =>
 elemAt x26q x26i 1 fun x26p =>
 ∃ x27 : Int, H2.cell x26p = some (Value.int .u8 x27) ∧
 IfB (decide ((x27 : Int) < 2))
 (Zlr o0a_1 o0n_1 o0c_1 n4 next2000000 true H2 R)
 (NilP o0a_1 fun x32q =>
 InB 1 o0n_1 fun x32i =>
 elemAt x32q x32i 1 fun x32p =>
 ∃ x33 : Int, H2.cell x32p = some (Value.int .u8 x33) ∧
 Zlr o0a_1 o0n_1 o0c_1 n4 next2000000 (decide (((IntKind.wrap .i64 x33) : Int) > (o0n_1 : Int))) H2 R))))
def Zbfc (o0a_1 : Option Addr) (o0n_1 : Nat) (o0c_1 : Nat) (n4 : Int) (H1 : Heap) (next2000000 : ((Option Addr × Nat × Nat) × Int × Unit) -> Heap -> Prop) (R : Value -> Heap -> Prop) : Prop :=
 IfB (((o0n_1 : Int) : Int) == 0)
 (Zny o0a_1 o0n_1 o0c_1 n4 next2000000 true H1 R)
 (NilP o0a_1 fun x10q =>
 InB 0 o0n_1 fun x10i =>
 elemAt x10q x10i 1 fun x10p =>
 ∃ x11 : Int, H1.cell x10p = some (Value.int .u8 x11) ∧
 Zny o0a_1 o0n_1 o0c_1 n4 next2000000 ((x11 : Int) == 0) H1 R)
def Ztl (o0a : Option Addr) (o0n : Nat) (o0c : Nat) (H : Heap) (R : Value -> Heap -> Prop) : Prop :=
 Zci ((Option Addr × Nat × Nat) × Int × Unit) ((o0a, o0n, o0c), (0, ())) H fun x H next => ∀ _g : Env, Zbfc x.1.1 x.1.2.1 x.1.2.2 x.2.1 H next R
theorem Zbqx (o0a : Option Addr) (o0n : Nat) (o0c : Nat) (H : Heap) (R : Value -> Heap -> Prop) : Ztl o0a o0n o0c H R = Zc Tryz.prog Zblh (Zb Tryz.f67) (env0 [(Value.slice o0a o0n o0c)]) H (RetW Tryz.prog Tryz.f67.results.toList R) := by kernel_rfl
theorem Zcfu (o0a : Option Addr) (o0n : Nat) (o0c : Nat) {H : Heap} {R : Value -> Heap -> Prop} (h : Ztl o0a o0n o0c H fun v H1 => ∀ H2, Shut H H1 H2 -> R v H2) : FnW Tryz.prog Zox ⟨[(Value.slice o0a o0n o0c)]⟩ H R := FnW.of_code Zcii (by kernel_rfl) (Eq.mp (Zbqx o0a o0n o0c H _) h)
def Zbmi : Plan := ⟨[], [], [], []⟩
theorem Zcjb : Known Tryz.prog Zbj Tryz.f68 Zbmi (Zb Tryz.f68) := by refine ⟨Tryz.func68, ?_, ?_, ?_, ?_, ?_⟩ <;> kernel_rfl
def Zzq (b0a : Option Addr) (b0n : Nat) (b0c : Nat) (H : Heap) (R : Value -> Heap -> Prop) : Prop :=
 NilP b0a fun x4q =>
 InB 0 b0n fun x4i =>
 elemAt x4q x4i 1 fun x4p =>
 ∃ x5 : Int, H.cell x4p = some (Value.int .u8 x5) ∧
 (0 : Int) <= 8 ∧
 NilP b0a fun x9q =>
 InB 1 b0n fun x9i =>
 elemAt x9q x9i 1 fun x9p =>
 ∃ x10 : Int, H.cell x9p = some (Value.int .u8 x10) ∧
 R (Value.int .i64 (Zdw .i64 (IntKind.wrap .i64 ((IntKind.wrap .i64 x5) * 2 ^ (min (8 : Int).toNat (IntKind.bits .i64)))) (IntKind.wrap .i64 x10))) H
theorem Zbpm (b0a : Option Addr) (b0n : Nat) (b0c : Nat) (H : Heap) (R : Value -> Heap -> Prop) : Zzq b0a b0n b0c H R = Zc Tryz.prog Zbmi (Zb Tryz.f68) (env0 [(Value.slice b0a b0n b0c)]) H (RetW Tryz.prog Tryz.f68.results.toList R) := by kernel_rfl
theorem Zbpb (b0a : Option Addr) (b0n : Nat) (b0c : Nat) {H : Heap} {R : Value -> Heap -> Prop} (h : Zzq b0a b0n b0c H fun v H1 => ∀ H2, Shut H H1 H2 -> R v H2) : FnW Tryz.prog Zbj ⟨[(Value.slice b0a b0n b0c)]⟩ H R := FnW.of_code Zcjb (by kernel_rfl) (Eq.mp (Zbpm b0a b0n b0c H _) h)
def Zbeb : Plan := ⟨[(1, [0, 4, 5, 1, 2, 3, 6, 7, 8, 9], [])], [], [], []⟩
theorem Zcgh : Known Tryz.prog Zdd Tryz.f69 Zbeb (Zb Tryz.f69) := by refine ⟨Tryz.func69, ?_, ?_, ?_, ?_, ?_⟩ <;> kernel_rfl
def Zbbf (b0a : Option Addr) (b0n : Nat) (b0c : Nat) (H : Heap) (R : Value -> Heap -> Prop) : Prop :=
 InC 2 b0n fun x8l =>
 FnW Tryz.prog Zbj ⟨[(Value.slice b0a b0n b0c)]⟩ H fun x4v H1 =>
 ∃ x4 : Int, x4v = (Value.int .i64 x4) ∧
 (0 : Int) <= 16 ∧
 FnW Tryz.prog Zbj ⟨[(Value.slice (if b0c = x8l then b0a else Option.map (fun a => Addr.add a (x8l * 1)) b0a) (b0n - x8l) (b0c - x8l))]⟩ H1 fun x9v H2 =>
 ∃ x9 : Int, x9v = (Value.int .i64 x9) ∧
 R (Value.int .u32 (Zdw .u32 (IntKind.wrap .u32 ((IntKind.wrap .u32 x4) * 2 ^ (min (16 : Int).toNat (IntKind.bits .u32)))) (IntKind.wrap .u32 x9))) H2
theorem Zcif (b0a : Option Addr) (b0n : Nat) (b0c : Nat) (H : Heap) (R : Value -> Heap -> Prop) : Zbbf b0a b0n b0c H R = Zc Tryz.prog Zbeb (Zb Tryz.f69) (env0 [(Value.slice b0a b0n b0c)]) H (RetW Tryz.prog Tryz.f69.results.toList R) := by kernel_rfl
theorem Zcce (b0a : Option Addr) (b0n : Nat) (b0c : Nat) {H : Heap} {R : Value -> Heap -> Prop} (h : Zbbf b0a b0n b0c H fun v H1 => ∀ H2, Shut H H1 H2 -> R v H2) : FnW Tryz.prog Zdd ⟨[(Value.slice b0a b0n b0c)]⟩ H R := FnW.of_code Zcgh (by kernel_rfl) (Eq.mp (Zcif b0a b0n b0c H _) h)
def Zbcm : Plan := ⟨[], [], [], []⟩
theorem Zbrw : Known Tryz.prog Zrn Tryz.f89 Zbcm (Zb Tryz.f89) := by refine ⟨Tryz.func89, ?_, ?_, ?_, ?_, ?_⟩ <;> kernel_rfl
def Zbaw (s0b : Nat) (x1c0 : Int) (x1c1 : Int) (x1c2 : Int) (x1c3 : Int) (x1c4 : Int) (x1c5 : Int) (x1c6 : Int) (x1c7 : Int) (x1c8a : Option Addr) (x1c8n : Nat) (x1c8c : Nat) (H : Heap) (R : Value -> Heap -> Prop) : Prop :=
 NewW H (Obj.cells ⟨[(Value.int .i64 x1c0), (Value.int .i64 x1c1), (Value.int .u32 x1c2), (Value.int .u32 x1c3), (Value.int .i64 x1c4), (Value.int .i64 x1c5), (Value.int .i64 x1c6), (Value.int .i64 x1c7), (Value.slice x1c8a x1c8n x1c8c)]⟩ Zl) fun x3b H1 =>
 ∃ (x8a : Option Addr) (x8n x8c : Nat), H1.cell ⟨s0b, 2, none⟩ = some (Value.slice x8a x8n x8c) ∧
 ∃ x10 : Int, H1.cell ⟨x3b, 1, none⟩ = some (Value.int .i64 x10) ∧
 FnW Tryz.prog Zkn ⟨[(Value.slice x8a x8n x8c), (Value.int .i64 x10)]⟩ H1 fun x11v H2 =>
 ∃ x11 : Bool, x11v = (Value.bool x11) ∧
 IfB x11
 (∃ x13c0 : Int, H2.cell ⟨x3b, 0, none⟩ = some (Value.int .i64 x13c0) ∧ ∃ x13c1 : Int, H2.cell ⟨x3b, 1, none⟩ = some (Value.int .i64 x13c1) ∧ ∃ x13c2 : Int, H2.cell ⟨x3b, 2, none⟩ = some (Value.int .u32 x13c2) ∧ ∃ x13c3 : Int, H2.cell ⟨x3b, 3, none⟩ = some (Value.int .u32 x13c3) ∧ ∃ x13c4 : Int, H2.cell ⟨x3b, 4, none⟩ = some (Value.int .i64 x13c4) ∧ ∃ x13c5 : Int, H2.cell ⟨x3b, 5, none⟩ = some (Value.int .i64 x13c5) ∧ ∃ x13c6 : Int, H2.cell ⟨x3b, 6, none⟩ = some (Value.int .i64 x13c6) ∧ ∃ x13c7 : Int, H2.cell ⟨x3b, 7, none⟩ = some (Value.int .i64 x13c7) ∧ ∃ (x13c8a : Option Addr) (x13c8n x13c8c : Nat), H2.cell ⟨x3b, 8, none⟩ = some (Value.slice x13c8a x13c8n x13c8c) ∧ FnW Tryz.prog Zhx ⟨[(Value.agg ⟨[(Value.int .i64 x13c0), (Value.int .i64 x13c1), (Value.int .u32 x13c2), (Value.int .u32 x13c3), (Value.int .i64 x13c4), (Value.int .i64 x13c5), (Value.int .i64 x13c6), (Value.int .i64 x13c7), (Value.slice x13c8a x13c8n x13c8c)]⟩)]⟩ H2 fun x14v H3 =>
 ∃ x14 : Int, x14v = (Value.int .i64 x14) ∧
 IfB ((x14 : Int) == 1)
 (∃ x19 : Int, H3.cell ⟨x3b, 0, none⟩ = some (Value.int .i64 x19) ∧
 FnW Tryz.prog Zif ⟨[(Value.int .i64 x19)]⟩ H3 fun x20v H4 =>
 ∃ x20 : Bool, x20v = (Value.bool x20) ∧
 IfB x20
 (∃ x24 : Int, H4.cell ⟨x3b, 4, none⟩ = some (Value.int .i64 x24) ∧
 R (Value.bool (((Zz .i64 x24 23) : Int) == 2)) H4)
 (R (Value.bool false) H4))
 (R (Value.bool false) H3))
 (R (Value.bool false) H2)
theorem Zcdc (s0b : Nat) (x1c0 : Int) (x1c1 : Int) (x1c2 : Int) (x1c3 : Int) (x1c4 : Int) (x1c5 : Int) (x1c6 : Int) (x1c7 : Int) (x1c8a : Option Addr) (x1c8n : Nat) (x1c8c : Nat) (H : Heap) (R : Value -> Heap -> Prop) : Zbaw s0b x1c0 x1c1 x1c2 x1c3 x1c4 x1c5 x1c6 x1c7 x1c8a x1c8n x1c8c H R = Zc Tryz.prog Zbcm (Zb Tryz.f89) (env0 [(Value.pointer (some ⟨s0b, 0, none⟩)), (Value.agg ⟨[(Value.int .i64 x1c0), (Value.int .i64 x1c1), (Value.int .u32 x1c2), (Value.int .u32 x1c3), (Value.int .i64 x1c4), (Value.int .i64 x1c5), (Value.int .i64 x1c6), (Value.int .i64 x1c7), (Value.slice x1c8a x1c8n x1c8c)]⟩)]) H (RetW Tryz.prog Tryz.f89.results.toList R) := by kernel_rfl
theorem Zbtl (s0b : Nat) (x1c0 : Int) (x1c1 : Int) (x1c2 : Int) (x1c3 : Int) (x1c4 : Int) (x1c5 : Int) (x1c6 : Int) (x1c7 : Int) (x1c8a : Option Addr) (x1c8n : Nat) (x1c8c : Nat) {H : Heap} {R : Value -> Heap -> Prop} (h : Zbaw s0b x1c0 x1c1 x1c2 x1c3 x1c4 x1c5 x1c6 x1c7 x1c8a x1c8n x1c8c H fun v H1 => ∀ H2, Shut H H1 H2 -> R v H2) : FnW Tryz.prog Zrn ⟨[(Value.pointer (some ⟨s0b, 0, none⟩)), (Value.agg ⟨[(Value.int .i64 x1c0), (Value.int .i64 x1c1), (Value.int .u32 x1c2), (Value.int .u32 x1c3), (Value.int .i64 x1c4), (Value.int .i64 x1c5), (Value.int .i64 x1c6), (Value.int .i64 x1c7), (Value.slice x1c8a x1c8n x1c8c)]⟩)]⟩ H R := FnW.of_code Zbrw (by kernel_rfl) (Eq.mp (Zcdc s0b x1c0 x1c1 x1c2 x1c3 x1c4 x1c5 x1c6 x1c7 x1c8a x1c8n x1c8c H _) h)
def Zbgp : Plan := ⟨[], [(2, [8], [.int .i64], [0, 1, 7])], [], []⟩
theorem Zcee : Known Tryz.prog Zban Tryz.f107 Zbgp (Zb Tryz.f107) := by refine ⟨Tryz.func107, ?_, ?_, ?_, ?_, ?_⟩ <;> kernel_rfl
def Zbcr (s0a : Option Addr) (s0n : Nat) (s0c : Nat) (v1 : Int) (x8 : Int) (H1 : Heap) (next2 : (Int × Unit) -> Heap -> Prop) (R : Value -> Heap -> Prop) : Prop :=
 IfB (decide ((x8 : Int) < (s0n : Int)))
 (NilP s0a fun x14q =>
 InB x8 s0n fun x14i =>
 elemAt x14q x14i 1 fun x14p =>
 ∃ x15 : Int, H1.cell x14p = some (Value.int .i64 x15) ∧
 IfB ((v1 : Int) == x15)
 (R (Value.int .i64 x8) H1)
 (next2 ((IntKind.wrap .i64 (x8 + 1)), ()) H1))
 (R (Value.int .i64 (-1)) H1)
def Zbar (s0a : Option Addr) (s0n : Nat) (s0c : Nat) (v1 : Int) (H : Heap) (R : Value -> Heap -> Prop) : Prop :=
 Zci (Int × Unit) (0, ()) H fun x H next => ∀ _g : Env, Zbcr s0a s0n s0c v1 x.1 H next R
theorem Zbvc (s0a : Option Addr) (s0n : Nat) (s0c : Nat) (v1 : Int) (H : Heap) (R : Value -> Heap -> Prop) : Zbar s0a s0n s0c v1 H R = Zc Tryz.prog Zbgp (Zb Tryz.f107) (env0 [(Value.slice s0a s0n s0c), (Value.int .i64 v1)]) H (RetW Tryz.prog Tryz.f107.results.toList R) := by kernel_rfl
theorem Zbsy (s0a : Option Addr) (s0n : Nat) (s0c : Nat) (v1 : Int) {H : Heap} {R : Value -> Heap -> Prop} (h : Zbar s0a s0n s0c v1 H fun v H1 => ∀ H2, Shut H H1 H2 -> R v H2) : FnW Tryz.prog Zban ⟨[(Value.slice s0a s0n s0c), (Value.int .i64 v1)]⟩ H R := FnW.of_code Zcee (by kernel_rfl) (Eq.mp (Zbvc s0a s0n s0c v1 H _) h)
end Go.Proofs.YtaljkjokbdpdoaaGreat
end
