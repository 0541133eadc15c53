/-
  NUMBERS BY NAME: printed by a program of ours over this translation.
-/
import Derived.Test.YtaljkjokbdpdoaaGreatEC
import Derived.Test.YtaljkjokbdpdoaaGreatRows
set_option linter.all false
section
set_option maxRecDepth 100000
set_option maxHeartbeats 4000000
namespace Go.Proofs.YtaljkjokbdpdoaaGreat
open Go.Sh
def Zb (fn : Func) : Code := match fn.body with | some c => c | none => .skip
abbrev T_ : TypeId := 0
abbrev Zde : TypeId := 3
abbrev Zca : TypeId := 4
abbrev Zf : TypeId := 5
abbrev Zblq : TypeId := 9
abbrev Zqd : TypeId := 22
abbrev Zzn : TypeId := 29
abbrev Zka : TypeId := 33
abbrev Zi : TypeId := 40
abbrev Zl : TypeId := 42
abbrev Zbq : TypeId := 49
abbrev Zea : TypeId := 59
abbrev Zie : TypeId := 65
abbrev Zbhc : TypeId := 68
abbrev Zbe : TypeId := 84
abbrev Zfe : TypeId := 85
abbrev Zel : TypeId := 86
abbrev Zug : TypeId := 88
abbrev Zeo : TypeId := 90
abbrev Zlh : TypeId := 92
abbrev Zfo : TypeId := 94
abbrev Ztu : TypeId := 99
abbrev Zfa : TypeId := 118
abbrev Zeb : TypeId := 171
abbrev Zgk : TypeId := 221
abbrev Zchn : TypeId := 225
abbrev Zhv : TypeId := 227
abbrev Zla : TypeId := 229
abbrev Zze : TypeId := 256
abbrev Zvt : FuncId := 4
abbrev Zsj : FuncId := 6
abbrev Zki : FuncId := 7
abbrev Zjq : FuncId := 8
abbrev Zmq : FuncId := 12
abbrev Zht : FuncId := 15
abbrev Zmg : FuncId := 16
abbrev Zkd : FuncId := 17
abbrev Zfw : FuncId := 18
abbrev Zeq : FuncId := 19
abbrev Zcn : FuncId := 20
abbrev Zhl : FuncId := 21
abbrev Zia : FuncId := 22
abbrev Zhi : FuncId := 23
abbrev Zpg : FuncId := 24
abbrev Zmz : FuncId := 26
abbrev Zkb : FuncId := 28
abbrev Zif : FuncId := 29
abbrev Zqz : FuncId := 30
abbrev Zkt : FuncId := 31
abbrev Zkr : FuncId := 32
abbrev Zdt : FuncId := 33
abbrev Zkz : FuncId := 45
abbrev Zot : FuncId := 46
abbrev Zpc : FuncId := 47
abbrev Zrv : FuncId := 48
abbrev Zjp : FuncId := 59
abbrev Zkh : FuncId := 60
abbrev Ziu : FuncId := 61
abbrev Zmx : FuncId := 62
abbrev Zow : FuncId := 63
abbrev Zpn : FuncId := 64
abbrev Zkn : FuncId := 65
abbrev Zjx : FuncId := 66
abbrev Zox : FuncId := 67
abbrev Zbj : FuncId := 68
abbrev Zdd : FuncId := 69
abbrev Zhd : FuncId := 72
abbrev Zml : FuncId := 73
abbrev Zje : FuncId := 74
abbrev Zfd : FuncId := 75
abbrev Zcv : FuncId := 76
abbrev Ziz : FuncId := 77
abbrev Zno : FuncId := 84
abbrev Zha : FuncId := 85
abbrev Zko : FuncId := 86
abbrev Zop : FuncId := 87
abbrev Zqg : FuncId := 88
abbrev Zrn : FuncId := 89
abbrev Zkp : FuncId := 90
abbrev Zne : FuncId := 91
abbrev Zjy : FuncId := 101
abbrev Zqf : FuncId := 102
abbrev Zhc : FuncId := 103
abbrev Zga : FuncId := 104
abbrev Zpy : FuncId := 105
abbrev Zju : FuncId := 106
abbrev Zban : FuncId := 107
abbrev Zlg : FuncId := 108
abbrev Zmm : FuncId := 109
abbrev Zis : FuncId := 113
abbrev Zgg : FuncId := 114
abbrev Zqr : FuncId := 115
abbrev Zqm : FuncId := 116
abbrev Znp : FuncId := 117
abbrev Zld : FuncId := 118
abbrev Zcj : FuncId := 119
abbrev Zgf : FuncId := 120
abbrev Zkw : FuncId := 121
abbrev Zjz : FuncId := 126
abbrev Zby : FuncId := 127
abbrev Zlq : FuncId := 128
abbrev Zkx : FuncId := 129
abbrev Zjl : FuncId := 130
abbrev Zmb : FuncId := 131
abbrev Zrj : FuncId := 132
abbrev Zgl : FuncId := 133
abbrev Zhx : FuncId := 134
abbrev Zpo : FuncId := 135
abbrev Zpj : FuncId := 136
abbrev Zhn : FuncId := 137
abbrev Zec : FuncId := 150
abbrev Zoo : FuncId := 151
abbrev Zpu : FuncId := 152
abbrev Zlv : FuncId := 153
abbrev Zll : FuncId := 154
abbrev Zpl : FuncId := 155
abbrev Zdy : FuncId := 156
abbrev Zhj : FuncId := 157
abbrev Zlt : FuncId := 158
abbrev Zcr : FuncId := 159
abbrev Zni : FuncId := 163
abbrev Zsu : FuncId := 164
abbrev Zrt : FuncId := 165
abbrev Znw : FuncId := 166
abbrev Zky : FuncId := 167
abbrev Zqt : FuncId := 168
abbrev Zpz : FuncId := 169
abbrev Ziy : FuncId := 170
abbrev Zhg : FuncId := 171
abbrev Zlj : FuncId := 172
abbrev Zii : FuncId := 173
abbrev Zgx : FuncId := 174
abbrev Zhr : FuncId := 175
abbrev Zoi : FuncId := 176
abbrev Zqu : FuncId := 177
abbrev Znk : FuncId := 178
abbrev Zig : FuncId := 179
abbrev Zng : FuncId := 180
abbrev Zlf : FuncId := 181
abbrev Zpp : FuncId := 193
abbrev Zrp : FuncId := 194
abbrev Zkm : FuncId := 195
abbrev Zhu : FuncId := 207
abbrev Zsa : FuncId := 208
abbrev Zjk : FuncId := 209
abbrev Zfh : FuncId := 210
abbrev Zrz : FuncId := 211
abbrev Zls : FuncId := 212
abbrev Zrc : FuncId := 213
abbrev Zoa : FuncId := 214
abbrev Zqw : FuncId := 215
abbrev Zon : FuncId := 224
abbrev Ziq : FuncId := 225
end Go.Proofs.YtaljkjokbdpdoaaGreat
end
section
set_option maxRecDepth 100000
namespace Go.Proofs.YtaljkjokbdpdoaaGreat
open Go.Sh
def Zbdn : Plan := ⟨[], [], [], []⟩
theorem Zbog : Known Tryz.prog Zqz Tryz.f30 Zbdn (Zb Tryz.f30) := by refine ⟨Tryz.func30, ?_, ?_, ?_, ?_, ?_⟩ <;> kernel_rfl
def Zry (now0 : Int) (from1 : Int) (to2 : Int) (first3 : Int) (x23 : Bool) (H2 : Heap) (R : Value -> Heap -> Prop) : Prop :=
 IfB x23
 (R (Value.tuple ⟨[(Value.pointer none), (Value.slice none 0 0), (Value.int .i64 2)]⟩) H2)
 (FnW Tryz.prog Zml ⟨[(Value.int .i64 now0), (Value.int .i64 from1), (Value.int .i64 to2), (Value.int .u32 first3)]⟩ H2 fun x28v H3 =>
 ∃ x28 : Option Addr, x28v = (Value.pointer x28) ∧
 NilP x28 fun x30p =>
 Za H3 x30p (Value.int .i64 1) fun H4 =>
 FnW Tryz.prog Zje ⟨[(Value.pointer x28)]⟩ H4 fun x33v H5 =>
 x33v = (Value.tuple ⟨[]⟩) ∧
 FnW Tryz.prog Zfd ⟨[(Value.pointer x28)]⟩ H5 fun x36v H6 =>
 ∃ (x36a : Option Addr) (x36n x36c : Nat), x36v = (Value.slice x36a x36n x36c) ∧
 R (Value.tuple ⟨[(Value.pointer x28), (Value.slice x36a x36n x36c), (Value.int .i64 0)]⟩) H6)
def Zyu (now0 : Int) (from1 : Int) (to2 : Int) (first3 : Int) (H : Heap) (R : Value -> Heap -> Prop) : Prop :=
 FnW Tryz.prog Zhd ⟨[(Value.int .i64 from1)]⟩ H fun x13v H1 =>
 ∃ x13 : Bool, x13v = (Value.bool x13) ∧
 IfB (!x13)
 (Zry now0 from1 to2 first3 true H1 R)
 (FnW Tryz.prog Zhd ⟨[(Value.int .i64 to2)]⟩ H1 fun x17v H7 =>
 ∃ x17 : Bool, x17v = (Value.bool x17) ∧
 IfB (!x17)
 (Zry now0 from1 to2 first3 true H7 R)
 (Zry now0 from1 to2 first3 (decide ((now0 : Int) < 0)) H7 R))
theorem Zbot (now0 : Int) (from1 : Int) (to2 : Int) (first3 : Int) (H : Heap) (R : Value -> Heap -> Prop) : Zyu now0 from1 to2 first3 H R = Zc Tryz.prog Zbdn (Zb Tryz.f30) (env0 [(Value.int .i64 now0), (Value.int .i64 from1), (Value.int .i64 to2), (Value.int .u32 first3)]) H (RetW Tryz.prog Tryz.f30.results.toList R) := by kernel_rfl
theorem Zbxe (now0 : Int) (from1 : Int) (to2 : Int) (first3 : Int) {H : Heap} {R : Value -> Heap -> Prop} (h : Zyu now0 from1 to2 first3 H fun v H1 => ∀ H2, Shut H H1 H2 -> R v H2) : FnW Tryz.prog Zqz ⟨[(Value.int .i64 now0), (Value.int .i64 from1), (Value.int .i64 to2), (Value.int .u32 first3)]⟩ H R := FnW.of_code Zbog (by kernel_rfl) (Eq.mp (Zbot now0 from1 to2 first3 H _) h)
def Zbgq : Plan := ⟨[], [], [], []⟩
theorem Zbol : Known Tryz.prog Zot Tryz.f46 Zbgq (Zb Tryz.f46) := by refine ⟨Tryz.func46, ?_, ?_, ?_, ?_, ?_⟩ <;> kernel_rfl
def Zsy (c0b : Nat) (e8 : Int) (H6 : Heap) (R : Value -> Heap -> Prop) : Prop :=
 FnW Tryz.prog Zfd ⟨[(Value.pointer (some ⟨c0b, 0, none⟩))]⟩ H6 fun x43v H7 =>
 ∃ (x43a : Option Addr) (x43n x43c : Nat), x43v = (Value.slice x43a x43n x43c) ∧
 R (Value.tuple ⟨[(Value.slice x43a x43n x43c), (Value.int .i64 e8)]⟩) H7
def Zwb (c0b : Nat) (now1 : Int) (s2c0 : Int) (s2c1 : Int) (s2c2 : Int) (s2c3 : Int) (s2c4 : Int) (s2c5 : Int) (s2c6 : Int) (s2c7 : Int) (s2c8a : Option Addr) (s2c8n : Nat) (s2c8c : Nat) (H : Heap) (R : Value -> Heap -> Prop) : Prop :=
 NewW H (Obj.cells ⟨[(Value.int .i64 s2c0), (Value.int .i64 s2c1), (Value.int .u32 s2c2), (Value.int .u32 s2c3), (Value.int .i64 s2c4), (Value.int .i64 s2c5), (Value.int .i64 s2c6), (Value.int .i64 s2c7), (Value.slice s2c8a s2c8n s2c8c)]⟩ Zl) fun s5b H1 =>
 FnW Tryz.prog Zha ⟨[(Value.pointer (some ⟨c0b, 0, none⟩)), (Value.int .i64 now1)]⟩ H1 fun x11v H2 =>
 ∃ x11 : Int, x11v = (Value.int .i64 x11) ∧
 IfB ((x11 : Int) != 0)
 (R (Value.tuple ⟨[(Value.slice none 0 0), (Value.int .i64 x11)]⟩) H2)
 (∃ x17c0 : Int, H2.cell ⟨s5b, 0, none⟩ = some (Value.int .i64 x17c0) ∧ ∃ x17c1 : Int, H2.cell ⟨s5b, 1, none⟩ = some (Value.int .i64 x17c1) ∧ ∃ x17c2 : Int, H2.cell ⟨s5b, 2, none⟩ = some (Value.int .u32 x17c2) ∧ ∃ x17c3 : Int, H2.cell ⟨s5b, 3, none⟩ = some (Value.int .u32 x17c3) ∧ ∃ x17c4 : Int, H2.cell ⟨s5b, 4, none⟩ = some (Value.int .i64 x17c4) ∧ ∃ x17c5 : Int, H2.cell ⟨s5b, 5, none⟩ = some (Value.int .i64 x17c5) ∧ ∃ x17c6 : Int, H2.cell ⟨s5b, 6, none⟩ = some (Value.int .i64 x17c6) ∧ ∃ x17c7 : Int, H2.cell ⟨s5b, 7, none⟩ = some (Value.int .i64 x17c7) ∧ ∃ (x17c8a : Option Addr) (x17c8n x17c8c : Nat), H2.cell ⟨s5b, 8, none⟩ = some (Value.slice x17c8a x17c8n x17c8c) ∧ FnW Tryz.prog Zko ⟨[(Value.agg ⟨[(Value.int .i64 x17c0), (Value.int .i64 x17c1), (Value.int .u32 x17c2), (Value.int .u32 x17c3), (Value.int .i64 x17c4), (Value.int .i64 x17c5), (Value.int .i64 x17c6), (Value.int .i64 x17c7), (Value.slice x17c8a x17c8n x17c8c)]⟩)]⟩ H2 fun x18v H3 =>
 ∃ x18 : Bool, x18v = (Value.bool x18) ∧
 IfB (!x18)
 (R (Value.tuple ⟨[(Value.slice none 0 0), (Value.int .i64 2)]⟩) H3)
 (∃ x23 : Int, H3.cell ⟨c0b, 0, none⟩ = some (Value.int .i64 x23) ∧
 IfB ((x23 : Int) == 0)
 (R (Value.tuple ⟨[(Value.slice none 0 0), (Value.int .i64 150)]⟩) H3)
 (IfB ((x23 : Int) == 1)
 (Za H3 ⟨c0b, 10, none⟩ (Value.int .i64 now1) fun H4 =>
 ∃ x40c0 : Int, H4.cell ⟨s5b, 0, none⟩ = some (Value.int .i64 x40c0) ∧ ∃ x40c1 : Int, H4.cell ⟨s5b, 1, none⟩ = some (Value.int .i64 x40c1) ∧ ∃ x40c2 : Int, H4.cell ⟨s5b, 2, none⟩ = some (Value.int .u32 x40c2) ∧ ∃ x40c3 : Int, H4.cell ⟨s5b, 3, none⟩ = some (Value.int .u32 x40c3) ∧ ∃ x40c4 : Int, H4.cell ⟨s5b, 4, none⟩ = some (Value.int .i64 x40c4) ∧ ∃ x40c5 : Int, H4.cell ⟨s5b, 5, none⟩ = some (Value.int .i64 x40c5) ∧ ∃ x40c6 : Int, H4.cell ⟨s5b, 6, none⟩ = some (Value.int .i64 x40c6) ∧ ∃ x40c7 : Int, H4.cell ⟨s5b, 7, none⟩ = some (Value.int .i64 x40c7) ∧ ∃ (x40c8a : Option Addr) (x40c8n x40c8c : Nat), H4.cell ⟨s5b, 8, none⟩ = some (Value.slice x40c8a x40c8n x40c8c) ∧ FnW Tryz.prog Zop ⟨[(Value.pointer (some ⟨c0b, 0, none⟩)), (Value.agg ⟨[(Value.int .i64 x40c0), (Value.int .i64 x40c1), (Value.int .u32 x40c2), (Value.int .u32 x40c3), (Value.int .i64 x40c4), (Value.int .i64 x40c5), (Value.int .i64 x40c6), (Value.int .i64 x40c7), (Value.slice x40c8a x40c8n x40c8c)]⟩)]⟩ H4 fun x41v H5 =>
 ∃ x41 : Int, x41v = (Value.int .i64 x41) ∧
 Zsy c0b x41 H5 R)
 (Za H3 ⟨c0b, 10, none⟩ (Value.int .i64 now1) fun H8 =>
 ∃ x29c0 : Int, H8.cell ⟨s5b, 0, none⟩ = some (Value.int .i64 x29c0) ∧ ∃ x29c1 : Int, H8.cell ⟨s5b, 1, none⟩ = some (Value.int .i64 x29c1) ∧ ∃ x29c2 : Int, H8.cell ⟨s5b, 2, none⟩ = some (Value.int .u32 x29c2) ∧ ∃ x29c3 : Int, H8.cell ⟨s5b, 3, none⟩ = some (Value.int .u32 x29c3) ∧ ∃ x29c4 : Int, H8.cell ⟨s5b, 4, none⟩ = some (Value.int .i64 x29c4) ∧ ∃ x29c5 : Int, H8.cell ⟨s5b, 5, none⟩ = some (Value.int .i64 x29c5) ∧ ∃ x29c6 : Int, H8.cell ⟨s5b, 6, none⟩ = some (Value.int .i64 x29c6) ∧ ∃ x29c7 : Int, H8.cell ⟨s5b, 7, none⟩ = some (Value.int .i64 x29c7) ∧ ∃ (x29c8a : Option Addr) (x29c8n x29c8c : Nat), H8.cell ⟨s5b, 8, none⟩ = some (Value.slice x29c8a x29c8n x29c8c) ∧ FnW Tryz.prog Zqg ⟨[(Value.pointer (some ⟨c0b, 0, none⟩)), (Value.agg ⟨[(Value.int .i64 x29c0), (Value.int .i64 x29c1), (Value.int .u32 x29c2), (Value.int .u32 x29c3), (Value.int .i64 x29c4), (Value.int .i64 x29c5), (Value.int .i64 x29c6), (Value.int .i64 x29c7), (Value.slice x29c8a x29c8n x29c8c)]⟩)]⟩ H8 fun x30v H9 =>
 ∃ x30 : Int, x30v = (Value.int .i64 x30) ∧
 Zsy c0b x30 H9 R))))
theorem Zbnp (c0b : Nat) (now1 : Int) (s2c0 : Int) (s2c1 : Int) (s2c2 : Int) (s2c3 : Int) (s2c4 : Int) (s2c5 : Int) (s2c6 : Int) (s2c7 : Int) (s2c8a : Option Addr) (s2c8n : Nat) (s2c8c : Nat) (H : Heap) (R : Value -> Heap -> Prop) : Zwb c0b now1 s2c0 s2c1 s2c2 s2c3 s2c4 s2c5 s2c6 s2c7 s2c8a s2c8n s2c8c H R = Zc Tryz.prog Zbgq (Zb Tryz.f46) (env0 [(Value.pointer (some ⟨c0b, 0, none⟩)), (Value.int .i64 now1), (Value.agg ⟨[(Value.int .i64 s2c0), (Value.int .i64 s2c1), (Value.int .u32 s2c2), (Value.int .u32 s2c3), (Value.int .i64 s2c4), (Value.int .i64 s2c5), (Value.int .i64 s2c6), (Value.int .i64 s2c7), (Value.slice s2c8a s2c8n s2c8c)]⟩)]) H (RetW Tryz.prog Tryz.f46.results.toList R) := by kernel_rfl
theorem Zbni (c0b : Nat) (now1 : Int) (s2c0 : Int) (s2c1 : Int) (s2c2 : Int) (s2c3 : Int) (s2c4 : Int) (s2c5 : Int) (s2c6 : Int) (s2c7 : Int) (s2c8a : Option Addr) (s2c8n : Nat) (s2c8c : Nat) {H : Heap} {R : Value -> Heap -> Prop} (h : Zwb c0b now1 s2c0 s2c1 s2c2 s2c3 s2c4 s2c5 s2c6 s2c7 s2c8a s2c8n s2c8c H fun v H1 => ∀ H2, Shut H H1 H2 -> R v H2) : FnW Tryz.prog Zot ⟨[(Value.pointer (some ⟨c0b, 0, none⟩)), (Value.int .i64 now1), (Value.agg ⟨[(Value.int .i64 s2c0), (Value.int .i64 s2c1), (Value.int .u32 s2c2), (Value.int .u32 s2c3), (Value.int .i64 s2c4), (Value.int .i64 s2c5), (Value.int .i64 s2c6), (Value.int .i64 s2c7), (Value.slice s2c8a s2c8n s2c8c)]⟩)]⟩ H R := FnW.of_code Zbol (by kernel_rfl) (Eq.mp (Zbnp c0b now1 s2c0 s2c1 s2c2 s2c3 s2c4 s2c5 s2c6 s2c7 s2c8a s2c8n s2c8c H _) h)
def Zbjx : Plan := ⟨[], [], [], []⟩
theorem Zccb : Known Tryz.prog Zkh Tryz.f60 Zbjx (Zb Tryz.f60) := by refine ⟨Tryz.func60, ?_, ?_, ?_, ?_, ?_⟩ <;> kernel_rfl
def Zym (c0b : Nat) (H : Heap) (R : Value -> Heap -> Prop) : Prop :=
 FnW Tryz.prog Zjy ⟨[(Value.pointer (some ⟨c0b, 0, none⟩))]⟩ H fun x4v H1 =>
 ∃ x4 : Bool, x4v = (Value.bool x4) ∧
 IfB (!x4)
 (R (Value.int .i64 0) H1)
 (∃ x9 : Int, H1.cell ⟨c0b, 0, none⟩ = some (Value.int .i64 x9) ∧
 R (Value.int .i64 x9) H1)
theorem Zbyh (c0b : Nat) (H : Heap) (R : Value -> Heap -> Prop) : Zym c0b H R = Zc Tryz.prog Zbjx (Zb Tryz.f60) (env0 [(Value.pointer (some ⟨c0b, 0, none⟩))]) H (RetW Tryz.prog Tryz.f60.results.toList R) := by kernel_rfl
theorem Zbru (c0b : Nat) {H : Heap} {R : Value -> Heap -> Prop} (h : Zym c0b H fun v H1 => ∀ H2, Shut H H1 H2 -> R v H2) : FnW Tryz.prog Zkh ⟨[(Value.pointer (some ⟨c0b, 0, none⟩))]⟩ H R := FnW.of_code Zccb (by kernel_rfl) (Eq.mp (Zbyh c0b H _) h)
def Zbht : Plan := ⟨[], [], [], []⟩
theorem Zcie : Known Tryz.prog Zmx Tryz.f62 Zbht (Zb Tryz.f62) := by refine ⟨Tryz.func62, ?_, ?_, ?_, ?_, ?_⟩ <;> kernel_rfl
def Zjm (c0b : Nat) (now1 : Int) (b2a : Option Addr) (b2n : Nat) (b2c : Nat) (x28 : Bool) (H2 : Heap) (R : Value -> Heap -> Prop) : Prop :=
 IfB x28
 (R (Value.tuple ⟨[(Value.int .i64 0), (Value.slice none 0 0), (Value.int .i64 150)]⟩) H2)
 (Za H2 ⟨c0b, 10, none⟩ (Value.int .i64 now1) fun H3 =>
 ∃ x36 : Option Addr, H3.cell ⟨c0b, 4, none⟩ = some (Value.pointer x36) ∧
 FnW Tryz.prog Zqf ⟨[(Value.pointer x36), (Value.slice b2a b2n b2c)]⟩ H3 fun x38v H4 =>
 ∃ x38 : Int, x38v = (Value.int .i64 x38) ∧
 FnW Tryz.prog Zhc ⟨[(Value.pointer (some ⟨c0b, 0, none⟩))]⟩ H4 fun x40v H5 =>
 x40v = (Value.tuple ⟨[]⟩) ∧
 FnW Tryz.prog Zfd ⟨[(Value.pointer (some ⟨c0b, 0, none⟩))]⟩ H5 fun x43v H6 =>
 ∃ (x43a : Option Addr) (x43n x43c : Nat), x43v = (Value.slice x43a x43n x43c) ∧
 R (Value.tuple ⟨[(Value.int .i64 x38), (Value.slice x43a x43n x43c), (Value.int .i64 0)]⟩) H6)
def Zzw (c0b : Nat) (now1 : Int) (b2a : Option Addr) (b2n : Nat) (b2c : Nat) (H : Heap) (R : Value -> Heap -> Prop) : Prop :=
 FnW Tryz.prog Zha ⟨[(Value.pointer (some ⟨c0b, 0, none⟩)), (Value.int .i64 now1)]⟩ H fun x13v H1 =>
 ∃ x13 : Int, x13v = (Value.int .i64 x13) ∧
 IfB ((x13 : Int) != 0)
 (R (Value.tuple ⟨[(Value.int .i64 0), (Value.slice none 0 0), (Value.int .i64 x13)]⟩) H1)
 (∃ x20 : Int, H1.cell ⟨c0b, 0, none⟩ = some (Value.int .i64 x20) ∧
 IfB ((x20 : Int) != 3)
 (∃ x26 : Int, H1.cell ⟨c0b, 0, none⟩ = some (Value.int .i64 x26) ∧
 Zjm c0b now1 b2a b2n b2c ((x26 : Int) != 6) H1 R)
 (Zjm c0b now1 b2a b2n b2c false H1 R))
theorem Zcho (c0b : Nat) (now1 : Int) (b2a : Option Addr) (b2n : Nat) (b2c : Nat) (H : Heap) (R : Value -> Heap -> Prop) : Zzw c0b now1 b2a b2n b2c H R = Zc Tryz.prog Zbht (Zb Tryz.f62) (env0 [(Value.pointer (some ⟨c0b, 0, none⟩)), (Value.int .i64 now1), (Value.slice b2a b2n b2c)]) H (RetW Tryz.prog Tryz.f62.results.toList R) := by kernel_rfl
theorem Zbov (c0b : Nat) (now1 : Int) (b2a : Option Addr) (b2n : Nat) (b2c : Nat) {H : Heap} {R : Value -> Heap -> Prop} (h : Zzw c0b now1 b2a b2n b2c H fun v H1 => ∀ H2, Shut H H1 H2 -> R v H2) : FnW Tryz.prog Zmx ⟨[(Value.pointer (some ⟨c0b, 0, none⟩)), (Value.int .i64 now1), (Value.slice b2a b2n b2c)]⟩ H R := FnW.of_code Zcie (by kernel_rfl) (Eq.mp (Zcho c0b now1 b2a b2n b2c H _) h)
def Zbda : Plan := ⟨[], [], [], []⟩
theorem Zchs : Known Tryz.prog Zow Tryz.f63 Zbda (Zb Tryz.f63) := by refine ⟨Tryz.func63, ?_, ?_, ?_, ?_, ?_⟩ <;> kernel_rfl
def Zpa (c0b : Nat) (now1 : Int) (H3 : Heap) (R : Value -> Heap -> Prop) : Prop :=
 Za H3 ⟨c0b, 10, none⟩ (Value.int .i64 now1) fun H4 =>
 Za H4 ⟨c0b, 6, none⟩ (Value.bool true) fun H5 =>
 FnW Tryz.prog Zhc ⟨[(Value.pointer (some ⟨c0b, 0, none⟩))]⟩ H5 fun x36v H6 =>
 x36v = (Value.tuple ⟨[]⟩) ∧
 FnW Tryz.prog Zfd ⟨[(Value.pointer (some ⟨c0b, 0, none⟩))]⟩ H6 fun x38v H7 =>
 ∃ (x38a : Option Addr) (x38n x38c : Nat), x38v = (Value.slice x38a x38n x38c) ∧
 R (Value.tuple ⟨[(Value.slice x38a x38n x38c), (Value.int .i64 0)]⟩) H7
def Zvs (c0b : Nat) (now1 : Int) (H : Heap) (R : Value -> Heap -> Prop) : Prop :=
 FnW Tryz.prog Zha ⟨[(Value.pointer (some ⟨c0b, 0, none⟩)), (Value.int .i64 now1)]⟩ H fun x9v H1 =>
 ∃ x9 : Int, x9v = (Value.int .i64 x9) ∧
 IfB ((x9 : Int) != 0)
 (R (Value.tuple ⟨[(Value.slice none 0 0), (Value.int .i64 x9)]⟩) H1)
 (∃ x16 : Int, H1.cell ⟨c0b, 0, none⟩ = some (Value.int .i64 x16) ∧
 IfB ((x16 : Int) == 3)
 (Za H1 ⟨c0b, 0, none⟩ (Value.int .i64 4) fun H2 =>
 Zpa c0b now1 H2 R)
 (IfB ((x16 : Int) == 6)
 (Za H1 ⟨c0b, 0, none⟩ (Value.int .i64 8) fun H8 =>
 Zpa c0b now1 H8 R)
 (R (Value.tuple ⟨[(Value.slice none 0 0), (Value.int .i64 150)]⟩) H1)))
theorem Zchd (c0b : Nat) (now1 : Int) (H : Heap) (R : Value -> Heap -> Prop) : Zvs c0b now1 H R = Zc Tryz.prog Zbda (Zb Tryz.f63) (env0 [(Value.pointer (some ⟨c0b, 0, none⟩)), (Value.int .i64 now1)]) H (RetW Tryz.prog Tryz.f63.results.toList R) := by kernel_rfl
theorem Zbun (c0b : Nat) (now1 : Int) {H : Heap} {R : Value -> Heap -> Prop} (h : Zvs c0b now1 H fun v H1 => ∀ H2, Shut H H1 H2 -> R v H2) : FnW Tryz.prog Zow ⟨[(Value.pointer (some ⟨c0b, 0, none⟩)), (Value.int .i64 now1)]⟩ H R := FnW.of_code Zchs (by kernel_rfl) (Eq.mp (Zchd c0b now1 H _) h)
def Zbhm : Plan := ⟨[], [], [], []⟩
theorem Zcfw : Known Tryz.prog Zpn Tryz.f64 Zbhm (Zb Tryz.f64) := by refine ⟨Tryz.func64, ?_, ?_, ?_, ?_, ?_⟩ <;> kernel_rfl
def Zrw (c0b : Nat) (x44r1 : Int) (x44r0a : Option Addr) (x44r0n : Nat) (x44r0c : Nat) (H8 : Heap) (R : Value -> Heap -> Prop) : Prop :=
 FnW Tryz.prog Zfd ⟨[(Value.pointer (some ⟨c0b, 0, none⟩))]⟩ H8 fun x74v H9 =>
 ∃ (x74a : Option Addr) (x74n x74c : Nat), x74v = (Value.slice x74a x74n x74c) ∧
 R (Value.tuple ⟨[(Value.slice x44r0a x44r0n x44r0c), (Value.slice x74a x74n x74c), (Value.int .i64 x44r1)]⟩) H9
def Zjr (c0b : Nat) (x44r1 : Int) (x44r0a : Option Addr) (x44r0n : Nat) (x44r0c : Nat) (x69 : Bool) (H6 : Heap) (R : Value -> Heap -> Prop) : Prop :=
 IfB x69
 (FnW Tryz.prog Zju ⟨[(Value.pointer (some ⟨c0b, 0, none⟩))]⟩ H6 fun x71v H7 =>
 x71v = (Value.tuple ⟨[]⟩) ∧
 Zrw c0b x44r1 x44r0a x44r0n x44r0c H7 R)
 (Zrw c0b x44r1 x44r0a x44r0n x44r0c H6 R)
def Zzj (c0b : Nat) (now1 : Int) (n2 : Int) (H : Heap) (R : Value -> Heap -> Prop) : Prop :=
 FnW Tryz.prog Zha ⟨[(Value.pointer (some ⟨c0b, 0, none⟩)), (Value.int .i64 now1)]⟩ H fun x14v H1 =>
 ∃ x14 : Int, x14v = (Value.int .i64 x14) ∧
 IfB ((x14 : Int) != 0)
 (R (Value.tuple ⟨[(Value.slice none 0 0), (Value.slice none 0 0), (Value.int .i64 x14)]⟩) H1)
 (IfB (decide ((n2 : Int) < 0))
 (R (Value.tuple ⟨[(Value.slice none 0 0), (Value.slice none 0 0), (Value.int .i64 2)]⟩) H1)
 (Za H1 ⟨c0b, 10, none⟩ (Value.int .i64 now1) fun H2 =>
 ∃ x29 : Option Addr, H2.cell ⟨c0b, 5, none⟩ = some (Value.pointer x29) ∧
 IfB x29.isNone
 (R (Value.tuple ⟨[(Value.slice none 0 0), (Value.slice none 0 0), (Value.int .i64 x14)]⟩) H2)
 (∃ x35 : Option Addr, H2.cell ⟨c0b, 5, none⟩ = some (Value.pointer x35) ∧
 FnW Tryz.prog Zga ⟨[(Value.pointer x35)]⟩ H2 fun x36v H3 =>
 ∃ x36 : Int, x36v = (Value.int .i64 x36) ∧
 ∃ x42 : Option Addr, H3.cell ⟨c0b, 5, none⟩ = some (Value.pointer x42) ∧
 FnW Tryz.prog Zpy ⟨[(Value.pointer x42), (Value.int .i64 n2)]⟩ H3 fun x44v H4 =>
 ∃ (x44r0a : Option Addr) (x44r0n x44r0c : Nat), ∃ x44r1 : Int, x44v = (Value.tuple ⟨[(Value.slice x44r0a x44r0n x44r0c), (Value.int .i64 x44r1)]⟩) ∧
 IfB ((x36 : Int) == 0)
 (∃ x52 : Option Addr, H4.cell ⟨c0b, 5, none⟩ = some (Value.pointer x52) ∧
 FnW Tryz.prog Zga ⟨[(Value.pointer x52)]⟩ H4 fun x53v H5 =>
 ∃ x53 : Int, x53v = (Value.int .i64 x53) ∧
 IfB (decide ((x53 : Int) > 0))
 (∃ x60 : Int, H5.cell ⟨c0b, 0, none⟩ = some (Value.int .i64 x60) ∧
 IfB (decide ((x60 : Int) ≥ 3))
 (∃ x67 : Int, H5.cell ⟨c0b, 0, none⟩ = some (Value.int .i64 x67) ∧
 Zjr c0b x44r1 x44r0a x44r0n x44r0c (decide ((x67 : Int) <= 5)) H5 R)
 (Zjr c0b x44r1 x44r0a x44r0n x44r0c false H5 R))
 (Zjr c0b x44r1 x44r0a x44r0n x44r0c false H5 R))
 (Zjr c0b x44r1 x44r0a x44r0n x44r0c false H4 R))))
theorem Zcaw (c0b : Nat) (now1 : Int) (n2 : Int) (H : Heap) (R : Value -> Heap -> Prop) : Zzj c0b now1 n2 H R = Zc Tryz.prog Zbhm (Zb Tryz.f64) (env0 [(Value.pointer (some ⟨c0b, 0, none⟩)), (Value.int .i64 now1), (Value.int .i64 n2)]) H (RetW Tryz.prog Tryz.f64.results.toList R) := by kernel_rfl
theorem Zcgy (c0b : Nat) (now1 : Int) (n2 : Int) {H : Heap} {R : Value -> Heap -> Prop} (h : Zzj c0b now1 n2 H fun v H1 => ∀ H2, Shut H H1 H2 -> R v H2) : FnW Tryz.prog Zpn ⟨[(Value.pointer (some ⟨c0b, 0, none⟩)), (Value.int .i64 now1), (Value.int .i64 n2)]⟩ H R := FnW.of_code Zcfw (by kernel_rfl) (Eq.mp (Zcaw c0b now1 n2 H _) h)
def Zbes : Plan := ⟨[], [], [], []⟩
theorem Zceg : Known Tryz.prog Zjx Tryz.f66 Zbes (Zb Tryz.f66) := by refine ⟨Tryz.func66, ?_, ?_, ?_, ?_, ?_⟩ <;> kernel_rfl
def Zpf (from0 : Int) (to1 : Int) (b2a : Option Addr) (b2n : Nat) (b2c : Nat) (H : Heap) (R : Value -> Heap -> Prop) : Prop :=
 FnW Tryz.prog Zmm ⟨[(Value.int .u32 from0), (Value.int .u32 to1), (Value.int .u8 6), (Value.int .i64 (b2n : Int))]⟩ H fun x11v H1 =>
 ∃ x11 : Int, x11v = (Value.int .u32 x11) ∧
 FnW Tryz.prog Zlg ⟨[(Value.int .u32 x11), (Value.slice b2a b2n b2c)]⟩ H1 fun x13v H2 =>
 ∃ x13 : Int, x13v = (Value.int .u32 x13) ∧
 R (Value.int .u32 x13) H2
theorem Zcka (from0 : Int) (to1 : Int) (b2a : Option Addr) (b2n : Nat) (b2c : Nat) (H : Heap) (R : Value -> Heap -> Prop) : Zpf from0 to1 b2a b2n b2c H R = Zc Tryz.prog Zbes (Zb Tryz.f66) (env0 [(Value.int .u32 from0), (Value.int .u32 to1), (Value.slice b2a b2n b2c)]) H (RetW Tryz.prog Tryz.f66.results.toList R) := by kernel_rfl
theorem Zbiy (from0 : Int) (to1 : Int) (b2a : Option Addr) (b2n : Nat) (b2c : Nat) {H : Heap} {R : Value -> Heap -> Prop} (h : Zpf from0 to1 b2a b2n b2c H fun v H1 => ∀ H2, Shut H H1 H2 -> R v H2) : FnW Tryz.prog Zjx ⟨[(Value.int .u32 from0), (Value.int .u32 to1), (Value.slice b2a b2n b2c)]⟩ H R := FnW.of_code Zceg (by kernel_rfl) (Eq.mp (Zcka from0 to1 b2a b2n b2c H _) h)
def Zbca : Plan := ⟨[], [], [], []⟩
theorem Zbqe : Known Tryz.prog Zhd Tryz.f72 Zbca (Zb Tryz.f72) := by refine ⟨Tryz.func72, ?_, ?_, ?_, ?_, ?_⟩ <;> kernel_rfl
def Zty (n0 : Int) (H : Heap) (R : Value -> Heap -> Prop) : Prop :=
 IfB (decide ((n0 : Int) ≥ 1))
 (R (Value.bool (decide ((n0 : Int) <= 65535))) H)
 (R (Value.bool false) H)
theorem Zcko (n0 : Int) (H : Heap) (R : Value -> Heap -> Prop) : Zty n0 H R = Zc Tryz.prog Zbca (Zb Tryz.f72) (env0 [(Value.int .i64 n0)]) H (RetW Tryz.prog Tryz.f72.results.toList R) := by kernel_rfl
theorem Zceo (n0 : Int) {H : Heap} {R : Value -> Heap -> Prop} (h : Zty n0 H fun v H1 => ∀ H2, Shut H H1 H2 -> R v H2) : FnW Tryz.prog Zhd ⟨[(Value.int .i64 n0)]⟩ H R := FnW.of_code Zbqe (by kernel_rfl) (Eq.mp (Zcko n0 H _) h)
def Zbge : Plan := ⟨[], [], [], []⟩
theorem Zbzu : Known Tryz.prog Zml Tryz.f73 Zbge (Zb Tryz.f73) := by refine ⟨Tryz.func73, ?_, ?_, ?_, ?_, ?_⟩ <;> kernel_rfl
def Zbba (now0 : Int) (from1 : Int) (to2 : Int) (first3 : Int) (H : Heap) (R : Value -> Heap -> Prop) : Prop :=
 NewW H (Obj.cells ⟨[(Value.int .i64 0), (Value.int .i64 from1), (Value.int .i64 to2), (Value.int .u32 first3), (Value.pointer none), (Value.pointer none), (Value.bool false), (Value.bool false), (Value.bool false), (Value.bool false), (Value.int .i64 now0), (Value.int .i64 (-1)), (Value.slice none 0 0)]⟩ Zeb) fun x15b H1 =>
 FnW Tryz.prog Zis ⟨[(Value.pointer (some ⟨x15b, 0, none⟩)), (Value.int .i64 536)]⟩ H1 fun x17v H2 =>
 x17v = (Value.tuple ⟨[]⟩) ∧
 R (Value.pointer (some ⟨x15b, 0, none⟩)) H2
theorem Zceb (now0 : Int) (from1 : Int) (to2 : Int) (first3 : Int) (H : Heap) (R : Value -> Heap -> Prop) : Zbba now0 from1 to2 first3 H R = Zc Tryz.prog Zbge (Zb Tryz.f73) (env0 [(Value.int .i64 now0), (Value.int .i64 from1), (Value.int .i64 to2), (Value.int .u32 first3)]) H (RetW Tryz.prog Tryz.f73.results.toList R) := by kernel_rfl
theorem Zcbd (now0 : Int) (from1 : Int) (to2 : Int) (first3 : Int) {H : Heap} {R : Value -> Heap -> Prop} (h : Zbba now0 from1 to2 first3 H fun v H1 => ∀ H2, Shut H H1 H2 -> R v H2) : FnW Tryz.prog Zml ⟨[(Value.int .i64 now0), (Value.int .i64 from1), (Value.int .i64 to2), (Value.int .u32 first3)]⟩ H R := FnW.of_code Zbzu (by kernel_rfl) (Eq.mp (Zceb now0 from1 to2 first3 H _) h)
def Zbiz : Plan := ⟨[], [], [], []⟩
theorem Zcfz : Known Tryz.prog Zje Tryz.f74 Zbiz (Zb Tryz.f74) := by refine ⟨Tryz.func74, ?_, ?_, ?_, ?_, ?_⟩ <;> kernel_rfl
def Zsd (c0b : Nat) (flags2_1 : Int) (H2 : Heap) (R : Value -> Heap -> Prop) : Prop :=
 ∃ x19 : Int, H2.cell ⟨c0b, 3, none⟩ = some (Value.int .u32 x19) ∧
 FnW Tryz.prog Zgg ⟨[(Value.pointer (some ⟨c0b, 0, none⟩)), (Value.int .u32 x19), (Value.int .i64 flags2_1), (Value.slice none 0 0)]⟩ H2 fun x21v H3 =>
 ∃ x21 : Option Addr, x21v = (Value.pointer x21) ∧
 NilP x21 fun x22p =>
 Za H3 ⟨x22p.block, x22p.off + 7, none⟩ (Value.int .i64 1460) fun H4 =>
 R (Value.tuple ⟨[]⟩) H4
def Zql (c0b : Nat) (flags2 : Int) (H1 : Heap) (R : Value -> Heap -> Prop) : Prop :=
 Zsd c0b (Zdw .i64 flags2 2) H1 R
def Zvv (c0b : Nat) (H : Heap) (R : Value -> Heap -> Prop) : Prop :=
 ∃ x6 : Int, H.cell ⟨c0b, 0, none⟩ = some (Value.int .i64 x6) ∧
 IfB ((x6 : Int) == 2)
 (Zql c0b (Zdw .i64 0 16) H R)
 (IfB ((x6 : Int) == 1)
 (Zql c0b 0 H R)
 (Zsd c0b 0 H R))
theorem Zbze (c0b : Nat) (H : Heap) (R : Value -> Heap -> Prop) : Zvv c0b H R = Zc Tryz.prog Zbiz (Zb Tryz.f74) (env0 [(Value.pointer (some ⟨c0b, 0, none⟩))]) H (RetW Tryz.prog Tryz.f74.results.toList R) := by kernel_rfl
theorem Zcck (c0b : Nat) {H : Heap} {R : Value -> Heap -> Prop} (h : Zvv c0b H fun v H1 => ∀ H2, Shut H H1 H2 -> R v H2) : FnW Tryz.prog Zje ⟨[(Value.pointer (some ⟨c0b, 0, none⟩))]⟩ H R := FnW.of_code Zcfz (by kernel_rfl) (Eq.mp (Zbze c0b H _) h)
def Zbct : Plan := ⟨[(5, [0, 1, 2, 3, 4, 5, 6, 7, 8, 9, 10, 11, 12, 13], [34])], [], [], []⟩
theorem Zcca : Known Tryz.prog Zfd Tryz.f75 Zbct (Zb Tryz.f75) := by refine ⟨Tryz.func75, ?_, ?_, ?_, ?_, ?_⟩ <;> kernel_rfl
def Zjo (c0b : Nat) (H1 : Heap) (R : Value -> Heap -> Prop) : Prop :=
 ∃ (x46a : Option Addr) (x46n x46c : Nat), H1.cell ⟨c0b, 12, none⟩ = some (Value.slice x46a x46n x46c) ∧
 Za H1 ⟨c0b, 12, none⟩ (Value.slice none 0 0) fun H2 =>
 R (Value.slice x46a x46n x46c) H2
def Zof (c0b : Nat) (x10 : Bool) (H3 : Heap) (R : Value -> Heap -> Prop) : Prop :=
 IfB x10
 (Za H3 ⟨c0b, 11, none⟩ (Value.int .i64 (-1)) fun H4 =>
 Zjo c0b H4 R)
 (∃ x28 : Int, H3.cell ⟨c0b, 11, none⟩ = some (Value.int .i64 x28) ∧
 IfB ((x28 : Int) == (-1))
 (∃ bs : List Nat, (∀ b ∈ bs, ∃ o, H3 b = some o) ∧
 c0b ∈ bs ∧ ∃ x34 : Int, H3.cell ⟨c0b, 10, none⟩ = some (Value.int .i64 x34) ∧
 ∃ x38 : Option Addr, H3.cell ⟨c0b, 4, none⟩ = some (Value.pointer x38) ∧
 FnW Tryz.prog Zqm ⟨[(Value.pointer x38)]⟩ H3 fun x39v H5 =>
 ∃ x39 : Int, x39v = (Value.int .i64 x39) ∧
 Ze bs H3 H5 ∧ Za H5 ⟨c0b, 11, none⟩ (Value.int .i64 (IntKind.wrap .i64 (x34 + x39))) fun H6 =>
 Zjo c0b H6 R)
 (Zjo c0b H3 R))
def Zxb (c0b : Nat) (H : Heap) (R : Value -> Heap -> Prop) : Prop :=
 ∃ x8 : Int, H.cell ⟨c0b, 0, none⟩ = some (Value.int .i64 x8) ∧
 IfB ((x8 : Int) == 9)
 (Zjo c0b H R)
 (∃ x14 : Int, H.cell ⟨c0b, 0, none⟩ = some (Value.int .i64 x14) ∧
 IfB ((x14 : Int) == 0)
 (Zof c0b true H R)
 (FnW Tryz.prog Zqr ⟨[(Value.pointer (some ⟨c0b, 0, none⟩))]⟩ H fun x18v H7 =>
 ∃ x18 : Bool, x18v = (Value.bool x18) ∧
 Zof c0b (!x18) H7 R))
theorem Zces (c0b : Nat) (H : Heap) (R : Value -> Heap -> Prop) : Zxb c0b H R = Zc Tryz.prog Zbct (Zb Tryz.f75) (env0 [(Value.pointer (some ⟨c0b, 0, none⟩))]) H (RetW Tryz.prog Tryz.f75.results.toList R) := by kernel_rfl
theorem Zbtb (c0b : Nat) {H : Heap} {R : Value -> Heap -> Prop} (h : Zxb c0b H fun v H1 => ∀ H2, Shut H H1 H2 -> R v H2) : FnW Tryz.prog Zfd ⟨[(Value.pointer (some ⟨c0b, 0, none⟩))]⟩ H R := FnW.of_code Zcca (by kernel_rfl) (Eq.mp (Zces c0b H _) h)
def Zbij : Plan := ⟨[], [], [], []⟩
theorem Zbtg : Known Tryz.prog Zcv Tryz.f76 Zbij (Zb Tryz.f76) := by refine ⟨Tryz.func76, ?_, ?_, ?_, ?_, ?_⟩ <;> kernel_rfl
def Zzx (a0 : Int) (n1 : Int) (H : Heap) (R : Value -> Heap -> Prop) : Prop :=
 R (Value.int .u32 (IntKind.wrap .u32 (a0 + (IntKind.wrap .u32 n1)))) H
theorem Zcdt (a0 : Int) (n1 : Int) (H : Heap) (R : Value -> Heap -> Prop) : Zzx a0 n1 H R = Zc Tryz.prog Zbij (Zb Tryz.f76) (env0 [(Value.int .u32 a0), (Value.int .i64 n1)]) H (RetW Tryz.prog Tryz.f76.results.toList R) := by kernel_rfl
theorem Zcad (a0 : Int) (n1 : Int) {H : Heap} {R : Value -> Heap -> Prop} (h : Zzx a0 n1 H fun v H1 => ∀ H2, Shut H H1 H2 -> R v H2) : FnW Tryz.prog Zcv ⟨[(Value.int .u32 a0), (Value.int .i64 n1)]⟩ H R := FnW.of_code Zbtg (by kernel_rfl) (Eq.mp (Zcdt a0 n1 H _) h)
def Zbio : Plan := ⟨[(11, [0, 1, 2, 3, 4, 5, 6, 7, 8, 9, 10, 11, 12, 13, 14], [57]), (14, [0, 1, 3, 4, 2, 5, 6], [75])], [], [], []⟩
theorem Zccd : Known Tryz.prog Ziz Tryz.f77 Zbio (Zb Tryz.f77) := by refine ⟨Tryz.func77, ?_, ?_, ?_, ?_, ?_⟩ <;> kernel_rfl
def Zoe (from0 : Int) (to1 : Int) (s2c0 : Int) (s2c1 : Int) (s2c2 : Int) (s2c3 : Int) (s2c4 : Int) (s2c5 : Int) (s2c6 : Int) (s2c7 : Int) (s2c8a : Option Addr) (s2c8n : Nat) (s2c8c : Nat) (H : Heap) (R : Value -> Heap -> Prop) : Prop :=
 NewW H (Obj.cells ⟨[(Value.int .i64 s2c0), (Value.int .i64 s2c1), (Value.int .u32 s2c2), (Value.int .u32 s2c3), (Value.int .i64 s2c4), (Value.int .i64 s2c5), (Value.int .i64 s2c6), (Value.int .i64 s2c7), (Value.slice s2c8a s2c8n s2c8c)]⟩ Zl) fun s5b H1 =>
 ∃ x11c0 : Int, H1.cell ⟨s5b, 0, none⟩ = some (Value.int .i64 x11c0) ∧ ∃ x11c1 : Int, H1.cell ⟨s5b, 1, none⟩ = some (Value.int .i64 x11c1) ∧ ∃ x11c2 : Int, H1.cell ⟨s5b, 2, none⟩ = some (Value.int .u32 x11c2) ∧ ∃ x11c3 : Int, H1.cell ⟨s5b, 3, none⟩ = some (Value.int .u32 x11c3) ∧ ∃ x11c4 : Int, H1.cell ⟨s5b, 4, none⟩ = some (Value.int .i64 x11c4) ∧ ∃ x11c5 : Int, H1.cell ⟨s5b, 5, none⟩ = some (Value.int .i64 x11c5) ∧ ∃ x11c6 : Int, H1.cell ⟨s5b, 6, none⟩ = some (Value.int .i64 x11c6) ∧ ∃ x11c7 : Int, H1.cell ⟨s5b, 7, none⟩ = some (Value.int .i64 x11c7) ∧ ∃ (x11c8a : Option Addr) (x11c8n x11c8c : Nat), H1.cell ⟨s5b, 8, none⟩ = some (Value.slice x11c8a x11c8n x11c8c) ∧ FnW Tryz.prog Znp ⟨[(Value.agg ⟨[(Value.int .i64 x11c0), (Value.int .i64 x11c1), (Value.int .u32 x11c2), (Value.int .u32 x11c3), (Value.int .i64 x11c4), (Value.int .i64 x11c5), (Value.int .i64 x11c6), (Value.int .i64 x11c7), (Value.slice x11c8a x11c8n x11c8c)]⟩)]⟩ H1 fun x12v H2 =>
 ∃ x12 : Bool, x12v = (Value.bool x12) ∧
 IfB (!x12)
 (R (Value.tuple ⟨[(Value.slice none 0 0), (Value.int .i64 2)]⟩) H2)
 (∃ (x16a : Option Addr) (x16n x16c : Nat), H2.cell ⟨s5b, 8, none⟩ = some (Value.slice x16a x16n x16c) ∧
 IfB (decide (((x16n : Int) : Int) > 65495))
 (R (Value.tuple ⟨[(Value.slice none 0 0), (Value.int .i64 3)]⟩) H2)
 (∃ x19c0 : Int, H2.cell ⟨s5b, 0, none⟩ = some (Value.int .i64 x19c0) ∧ ∃ x19c1 : Int, H2.cell ⟨s5b, 1, none⟩ = some (Value.int .i64 x19c1) ∧ ∃ x19c2 : Int, H2.cell ⟨s5b, 2, none⟩ = some (Value.int .u32 x19c2) ∧ ∃ x19c3 : Int, H2.cell ⟨s5b, 3, none⟩ = some (Value.int .u32 x19c3) ∧ ∃ x19c4 : Int, H2.cell ⟨s5b, 4, none⟩ = some (Value.int .i64 x19c4) ∧ ∃ x19c5 : Int, H2.cell ⟨s5b, 5, none⟩ = some (Value.int .i64 x19c5) ∧ ∃ x19c6 : Int, H2.cell ⟨s5b, 6, none⟩ = some (Value.int .i64 x19c6) ∧ ∃ x19c7 : Int, H2.cell ⟨s5b, 7, none⟩ = some (Value.int .i64 x19c7) ∧ ∃ (x19c8a : Option Addr) (x19c8n x19c8c : Nat), H2.cell ⟨s5b, 8, none⟩ = some (Value.slice x19c8a x19c8n x19c8c) ∧ FnW Tryz.prog Zld ⟨[(Value.agg ⟨[(Value.int .i64 x19c0), (Value.int .i64 x19c1), (Value.int .u32 x19c2), (Value.int .u32 x19c3), (Value.int .i64 x19c4), (Value.int .i64 x19c5), (Value.int .i64 x19c6), (Value.int .i64 x19c7), (Value.slice x19c8a x19c8n x19c8c)]⟩)]⟩ H2 fun x20v H3 =>
 ∃ (x20a : Option Addr) (x20n x20c : Nat), x20v = (Value.slice x20a x20n x20c) ∧
 ∃ (x25a : Option Addr) (x25n x25c : Nat), H3.cell ⟨s5b, 8, none⟩ = some (Value.slice x25a x25n x25c) ∧
 Zcs Tryz.prog Zi (Value.int .i64 20) (Value.int .i64 (IntKind.wrap .i64 ((IntKind.wrap .i64 (20 + (x20n : Int))) + (x25n : Int)))) H3 fun x28v H4 =>
 ∃ (x28a : Option Addr) (x28n x28c : Nat), x28v = (Value.slice x28a x28n x28c) ∧
 ∃ x31 : Int, H4.cell ⟨s5b, 0, none⟩ = some (Value.int .i64 x31) ∧
 FnW Tryz.prog Zcj ⟨[(Value.slice x28a x28n x28c), (Value.int .i64 x31)]⟩ H4 fun x32v H5 =>
 x32v = (Value.tuple ⟨[]⟩) ∧
 InC 2 x28n fun x34l =>
 ∃ x36 : Int, H5.cell ⟨s5b, 1, none⟩ = some (Value.int .i64 x36) ∧
 FnW Tryz.prog Zcj ⟨[(Value.slice (if x28c = x34l then x28a else Option.map (fun a => Addr.add a (x34l * 1)) x28a) (x28n - x34l) (x28c - x34l)), (Value.int .i64 x36)]⟩ H5 fun x37v H6 =>
 x37v = (Value.tuple ⟨[]⟩) ∧
 InC 4 x28n fun x39l =>
 ∃ x41 : Int, H6.cell ⟨s5b, 2, none⟩ = some (Value.int .u32 x41) ∧
 FnW Tryz.prog Zgf ⟨[(Value.slice (if x28c = x39l then x28a else Option.map (fun a => Addr.add a (x39l * 1)) x28a) (x28n - x39l) (x28c - x39l)), (Value.int .u32 x41)]⟩ H6 fun x42v H7 =>
 x42v = (Value.tuple ⟨[]⟩) ∧
 InC 8 x28n fun x44l =>
 ∃ x46 : Int, H7.cell ⟨s5b, 3, none⟩ = some (Value.int .u32 x46) ∧
 FnW Tryz.prog Zgf ⟨[(Value.slice (if x28c = x44l then x28a else Option.map (fun a => Addr.add a (x44l * 1)) x28a) (x28n - x44l) (x28c - x44l)), (Value.int .u32 x46)]⟩ H7 fun x47v H8 =>
 x47v = (Value.tuple ⟨[]⟩) ∧
 ∃ bs : List Nat, (∀ b ∈ bs, ∃ o, H8 b = some o) ∧
 (4 : Int) ≠ 0 ∧
 (0 : Int) <= 4 ∧
 s5b ∈ bs ∧ ∃ x57 : Int, H8.cell ⟨s5b, 4, none⟩ = some (Value.int .i64 x57) ∧
 NilP x28a fun x59q =>
 InB 12 x28n fun x59i =>
 elemAt x59q x59i 1 fun x59p =>
 Za H8 x59p (Value.int .u8 (IntKind.wrap .u8 (IntKind.wrap .i64 ((IntKind.wrap .i64 (Int.tdiv (IntKind.wrap .i64 (20 + (x20n : Int))) 4)) * 2 ^ (min (4 : Int).toNat (IntKind.bits .i64)))))) fun H9 =>
 Ze bs H8 H9 ∧ NilP x28a fun x60q =>
 InB 13 x28n fun x60i =>
 elemAt x60q x60i 1 fun x60p =>
 Za H9 x60p (Value.int .u8 (IntKind.wrap .u8 x57)) fun H10 =>
 InC 14 x28n fun x62l =>
 ∃ x64 : Int, H10.cell ⟨s5b, 5, none⟩ = some (Value.int .i64 x64) ∧
 FnW Tryz.prog Zcj ⟨[(Value.slice (if x28c = x62l then x28a else Option.map (fun a => Addr.add a (x62l * 1)) x28a) (x28n - x62l) (x28c - x62l)), (Value.int .i64 x64)]⟩ H10 fun x65v H11 =>
 x65v = (Value.tuple ⟨[]⟩) ∧
 InC 18 x28n fun x67l =>
 ∃ x69 : Int, H11.cell ⟨s5b, 6, none⟩ = some (Value.int .i64 x69) ∧
 FnW Tryz.prog Zcj ⟨[(Value.slice (if x28c = x67l then x28a else Option.map (fun a => Addr.add a (x67l * 1)) x28a) (x28n - x67l) (x28c - x67l)), (Value.int .i64 x69)]⟩ H11 fun x70v H12 =>
 x70v = (Value.tuple ⟨[]⟩) ∧
 ∃ bs : List Nat, (∀ b ∈ bs, ∃ o, H12 b = some o) ∧
 s5b ∈ bs ∧ ∃ (x75a : Option Addr) (x75n x75c : Nat), H12.cell ⟨s5b, 8, none⟩ = some (Value.slice x75a x75n x75c) ∧
 AppW Tryz.prog #[Zi, Zi] Zi [(Value.slice x28a x28n x28c), (Value.slice x20a x20n x20c)] H12 fun x73v H13 =>
 ∃ (x73a : Option Addr) (x73n x73c : Nat), x73v = (Value.slice x73a x73n x73c) ∧
 Ze bs H12 H13 ∧ AppW Tryz.prog #[Zi, Zi] Zi [(Value.slice x73a x73n x73c), (Value.slice x75a x75n x75c)] H13 fun x76v H14 =>
 ∃ (x76a : Option Addr) (x76n x76c : Nat), x76v = (Value.slice x76a x76n x76c) ∧
 InC 16 x76n fun x78l =>
 FnW Tryz.prog Zjx ⟨[(Value.int .u32 from0), (Value.int .u32 to1), (Value.slice x76a x76n x76c)]⟩ H14 fun x82v H15 =>
 ∃ x82 : Int, x82v = (Value.int .u32 x82) ∧
 FnW Tryz.prog Zkw ⟨[(Value.int .u32 x82)]⟩ H15 fun x83v H16 =>
 ∃ x83 : Int, x83v = (Value.int .u16 x83) ∧
 FnW Tryz.prog Zcj ⟨[(Value.slice (if x76c = x78l then x76a else Option.map (fun a => Addr.add a (x78l * 1)) x76a) (x76n - x78l) (x76c - x78l)), (Value.int .i64 (IntKind.wrap .i64 x83))]⟩ H16 fun x85v H17 =>
 x85v = (Value.tuple ⟨[]⟩) ∧
 R (Value.tuple ⟨[(Value.slice x76a x76n x76c), (Value.int .i64 0)]⟩) H17))
theorem Zckf (from0 : Int) (to1 : Int) (s2c0 : Int) (s2c1 : Int) (s2c2 : Int) (s2c3 : Int) (s2c4 : Int) (s2c5 : Int) (s2c6 : Int) (s2c7 : Int) (s2c8a : Option Addr) (s2c8n : Nat) (s2c8c : Nat) (H : Heap) (R : Value -> Heap -> Prop) : Zoe from0 to1 s2c0 s2c1 s2c2 s2c3 s2c4 s2c5 s2c6 s2c7 s2c8a s2c8n s2c8c H R = Zc Tryz.prog Zbio (Zb Tryz.f77) (env0 [(Value.int .u32 from0), (Value.int .u32 to1), (Value.agg ⟨[(Value.int .i64 s2c0), (Value.int .i64 s2c1), (Value.int .u32 s2c2), (Value.int .u32 s2c3), (Value.int .i64 s2c4), (Value.int .i64 s2c5), (Value.int .i64 s2c6), (Value.int .i64 s2c7), (Value.slice s2c8a s2c8n s2c8c)]⟩)]) H (RetW Tryz.prog Tryz.f77.results.toList R) := by kernel_rfl
theorem Zbez (from0 : Int) (to1 : Int) (s2c0 : Int) (s2c1 : Int) (s2c2 : Int) (s2c3 : Int) (s2c4 : Int) (s2c5 : Int) (s2c6 : Int) (s2c7 : Int) (s2c8a : Option Addr) (s2c8n : Nat) (s2c8c : Nat) {H : Heap} {R : Value -> Heap -> Prop} (h : Zoe from0 to1 s2c0 s2c1 s2c2 s2c3 s2c4 s2c5 s2c6 s2c7 s2c8a s2c8n s2c8c H fun v H1 => ∀ H2, Shut H H1 H2 -> R v H2) : FnW Tryz.prog Ziz ⟨[(Value.int .u32 from0), (Value.int .u32 to1), (Value.agg ⟨[(Value.int .i64 s2c0), (Value.int .i64 s2c1), (Value.int .u32 s2c2), (Value.int .u32 s2c3), (Value.int .i64 s2c4), (Value.int .i64 s2c5), (Value.int .i64 s2c6), (Value.int .i64 s2c7), (Value.slice s2c8a s2c8n s2c8c)]⟩)]⟩ H R := FnW.of_code Zccd (by kernel_rfl) (Eq.mp (Zckf from0 to1 s2c0 s2c1 s2c2 s2c3 s2c4 s2c5 s2c6 s2c7 s2c8a s2c8n s2c8c H _) h)
def Zbbp : Plan := ⟨[], [], [], []⟩
theorem Zcdm : Known Tryz.prog Zno Tryz.f84 Zbbp (Zb Tryz.f84) := by refine ⟨Tryz.func84, ?_, ?_, ?_, ?_, ?_⟩ <;> kernel_rfl
def Zzo (c0b : Nat) (H : Heap) (R : Value -> Heap -> Prop) : Prop :=
 FnW Tryz.prog Zjy ⟨[(Value.pointer (some ⟨c0b, 0, none⟩))]⟩ H fun x4v H1 =>
 ∃ x4 : Bool, x4v = (Value.bool x4) ∧
 IfB (!x4)
 (R (Value.int .i64 0) H1)
 (∃ x9 : Option Addr, H1.cell ⟨c0b, 5, none⟩ = some (Value.pointer x9) ∧
 FnW Tryz.prog Zjz ⟨[(Value.pointer x9)]⟩ H1 fun x10v H2 =>
 ∃ x10 : Int, x10v = (Value.int .i64 x10) ∧
 R (Value.int .i64 x10) H2)
theorem Zbtx (c0b : Nat) (H : Heap) (R : Value -> Heap -> Prop) : Zzo c0b H R = Zc Tryz.prog Zbbp (Zb Tryz.f84) (env0 [(Value.pointer (some ⟨c0b, 0, none⟩))]) H (RetW Tryz.prog Tryz.f84.results.toList R) := by kernel_rfl
theorem Zcbn (c0b : Nat) {H : Heap} {R : Value -> Heap -> Prop} (h : Zzo c0b H fun v H1 => ∀ H2, Shut H H1 H2 -> R v H2) : FnW Tryz.prog Zno ⟨[(Value.pointer (some ⟨c0b, 0, none⟩))]⟩ H R := FnW.of_code Zcdm (by kernel_rfl) (Eq.mp (Zbtx c0b H _) h)
def Zbfr : Plan := ⟨[], [], [], []⟩
theorem Zbop : Known Tryz.prog Zha Tryz.f85 Zbfr (Zb Tryz.f85) := by refine ⟨Tryz.func85, ?_, ?_, ?_, ?_, ?_⟩ <;> kernel_rfl
def Zzt (c0b : Nat) (now1 : Int) (H : Heap) (R : Value -> Heap -> Prop) : Prop :=
 FnW Tryz.prog Zjy ⟨[(Value.pointer (some ⟨c0b, 0, none⟩))]⟩ H fun x7v H1 =>
 ∃ x7 : Bool, x7v = (Value.bool x7) ∧
 IfB (!x7)
 (R (Value.int .i64 1) H1)
 (∃ x14 : Int, H1.cell ⟨c0b, 10, none⟩ = some (Value.int .i64 x14) ∧
 IfB (decide ((now1 : Int) < x14))
 (R (Value.int .i64 2) H1)
 (R (Value.int .i64 0) H1))
theorem Zbon (c0b : Nat) (now1 : Int) (H : Heap) (R : Value -> Heap -> Prop) : Zzt c0b now1 H R = Zc Tryz.prog Zbfr (Zb Tryz.f85) (env0 [(Value.pointer (some ⟨c0b, 0, none⟩)), (Value.int .i64 now1)]) H (RetW Tryz.prog Tryz.f85.results.toList R) := by kernel_rfl
theorem Zbqn (c0b : Nat) (now1 : Int) {H : Heap} {R : Value -> Heap -> Prop} (h : Zzt c0b now1 H fun v H1 => ∀ H2, Shut H H1 H2 -> R v H2) : FnW Tryz.prog Zha ⟨[(Value.pointer (some ⟨c0b, 0, none⟩)), (Value.int .i64 now1)]⟩ H R := FnW.of_code Zbop (by kernel_rfl) (Eq.mp (Zbon c0b now1 H _) h)
def Zbmz : Plan := ⟨[], [], [], []⟩
theorem Zccq : Known Tryz.prog Zko Tryz.f86 Zbmz (Zb Tryz.f86) := by refine ⟨Tryz.func86, ?_, ?_, ?_, ?_, ?_⟩ <;> kernel_rfl
def Zzp (s0c0 : Int) (s0c1 : Int) (s0c2 : Int) (s0c3 : Int) (s0c4 : Int) (s0c5 : Int) (s0c6 : Int) (s0c7 : Int) (s0c8a : Option Addr) (s0c8n : Nat) (s0c8c : Nat) (H : Heap) (R : Value -> Heap -> Prop) : Prop :=
 NewW H (Obj.cells ⟨[(Value.int .i64 s0c0), (Value.int .i64 s0c1), (Value.int .u32 s0c2), (Value.int .u32 s0c3), (Value.int .i64 s0c4), (Value.int .i64 s0c5), (Value.int .i64 s0c6), (Value.int .i64 s0c7), (Value.slice s0c8a s0c8n s0c8c)]⟩ Zl) fun s1b H1 =>
 ∃ x6c0 : Int, H1.cell ⟨s1b, 0, none⟩ = some (Value.int .i64 x6c0) ∧ ∃ x6c1 : Int, H1.cell ⟨s1b, 1, none⟩ = some (Value.int .i64 x6c1) ∧ ∃ x6c2 : Int, H1.cell ⟨s1b, 2, none⟩ = some (Value.int .u32 x6c2) ∧ ∃ x6c3 : Int, H1.cell ⟨s1b, 3, none⟩ = some (Value.int .u32 x6c3) ∧ ∃ x6c4 : Int, H1.cell ⟨s1b, 4, none⟩ = some (Value.int .i64 x6c4) ∧ ∃ x6c5 : Int, H1.cell ⟨s1b, 5, none⟩ = some (Value.int .i64 x6c5) ∧ ∃ x6c6 : Int, H1.cell ⟨s1b, 6, none⟩ = some (Value.int .i64 x6c6) ∧ ∃ x6c7 : Int, H1.cell ⟨s1b, 7, none⟩ = some (Value.int .i64 x6c7) ∧ ∃ (x6c8a : Option Addr) (x6c8n x6c8c : Nat), H1.cell ⟨s1b, 8, none⟩ = some (Value.slice x6c8a x6c8n x6c8c) ∧ FnW Tryz.prog Ziz ⟨[(Value.int .u32 0), (Value.int .u32 0), (Value.agg ⟨[(Value.int .i64 x6c0), (Value.int .i64 x6c1), (Value.int .u32 x6c2), (Value.int .u32 x6c3), (Value.int .i64 x6c4), (Value.int .i64 x6c5), (Value.int .i64 x6c6), (Value.int .i64 x6c7), (Value.slice x6c8a x6c8n x6c8c)]⟩)]⟩ H1 fun x7v H2 =>
 ∃ (x7r0a : Option Addr) (x7r0n x7r0c : Nat), ∃ x7r1 : Int, x7v = (Value.tuple ⟨[(Value.slice x7r0a x7r0n x7r0c), (Value.int .i64 x7r1)]⟩) ∧
 R (Value.bool ((x7r1 : Int) == 0)) H2
theorem Zbqf (s0c0 : Int) (s0c1 : Int) (s0c2 : Int) (s0c3 : Int) (s0c4 : Int) (s0c5 : Int) (s0c6 : Int) (s0c7 : Int) (s0c8a : Option Addr) (s0c8n : Nat) (s0c8c : Nat) (H : Heap) (R : Value -> Heap -> Prop) : Zzp s0c0 s0c1 s0c2 s0c3 s0c4 s0c5 s0c6 s0c7 s0c8a s0c8n s0c8c H R = Zc Tryz.prog Zbmz (Zb Tryz.f86) (env0 [(Value.agg ⟨[(Value.int .i64 s0c0), (Value.int .i64 s0c1), (Value.int .u32 s0c2), (Value.int .u32 s0c3), (Value.int .i64 s0c4), (Value.int .i64 s0c5), (Value.int .i64 s0c6), (Value.int .i64 s0c7), (Value.slice s0c8a s0c8n s0c8c)]⟩)]) H (RetW Tryz.prog Tryz.f86.results.toList R) := by kernel_rfl
theorem Zcff (s0c0 : Int) (s0c1 : Int) (s0c2 : Int) (s0c3 : Int) (s0c4 : Int) (s0c5 : Int) (s0c6 : Int) (s0c7 : Int) (s0c8a : Option Addr) (s0c8n : Nat) (s0c8c : Nat) {H : Heap} {R : Value -> Heap -> Prop} (h : Zzp s0c0 s0c1 s0c2 s0c3 s0c4 s0c5 s0c6 s0c7 s0c8a s0c8n s0c8c H fun v H1 => ∀ H2, Shut H H1 H2 -> R v H2) : FnW Tryz.prog Zko ⟨[(Value.agg ⟨[(Value.int .i64 s0c0), (Value.int .i64 s0c1), (Value.int .u32 s0c2), (Value.int .u32 s0c3), (Value.int .i64 s0c4), (Value.int .i64 s0c5), (Value.int .i64 s0c6), (Value.int .i64 s0c7), (Value.slice s0c8a s0c8n s0c8c)]⟩)]⟩ H R := FnW.of_code Zccq (by kernel_rfl) (Eq.mp (Zbqf s0c0 s0c1 s0c2 s0c3 s0c4 s0c5 s0c6 s0c7 s0c8a s0c8n s0c8c H _) h)
def Zblc : Plan := ⟨[(1, [0, 1, 2, 3, 4, 5, 6, 7, 8, 9, 10, 11], [9])], [], [], []⟩
theorem Zbvg : Known Tryz.prog Zop Tryz.f87 Zblc (Zb Tryz.f87) := by refine ⟨Tryz.func87, ?_, ?_, ?_, ?_, ?_⟩ <;> kernel_rfl
def Zbau (H17 : Heap) (R : Value -> Heap -> Prop) : Prop :=
 R (Value.int .i64 0) H17
def Zqi (c0b : Nat) (s3b : Nat) (x16 : Bool) (H4 : Heap) (R : Value -> Heap -> Prop) : Prop :=
 IfB x16
 (∃ x18c0 : Int, H4.cell ⟨s3b, 0, none⟩ = some (Value.int .i64 x18c0) ∧ ∃ x18c1 : Int, H4.cell ⟨s3b, 1, none⟩ = some (Value.int .i64 x18c1) ∧ ∃ x18c2 : Int, H4.cell ⟨s3b, 2, none⟩ = some (Value.int .u32 x18c2) ∧ ∃ x18c3 : Int, H4.cell ⟨s3b, 3, none⟩ = some (Value.int .u32 x18c3) ∧ ∃ x18c4 : Int, H4.cell ⟨s3b, 4, none⟩ = some (Value.int .i64 x18c4) ∧ ∃ x18c5 : Int, H4.cell ⟨s3b, 5, none⟩ = some (Value.int .i64 x18c5) ∧ ∃ x18c6 : Int, H4.cell ⟨s3b, 6, none⟩ = some (Value.int .i64 x18c6) ∧ ∃ x18c7 : Int, H4.cell ⟨s3b, 7, none⟩ = some (Value.int .i64 x18c7) ∧ ∃ (x18c8a : Option Addr) (x18c8n x18c8c : Nat), H4.cell ⟨s3b, 8, none⟩ = some (Value.slice x18c8a x18c8n x18c8c) ∧ FnW Tryz.prog Zlq ⟨[(Value.pointer (some ⟨c0b, 0, none⟩)), (Value.agg ⟨[(Value.int .i64 x18c0), (Value.int .i64 x18c1), (Value.int .u32 x18c2), (Value.int .u32 x18c3), (Value.int .i64 x18c4), (Value.int .i64 x18c5), (Value.int .i64 x18c6), (Value.int .i64 x18c7), (Value.slice x18c8a x18c8n x18c8c)]⟩)]⟩ H4 fun x19v H5 =>
 x19v = (Value.tuple ⟨[]⟩) ∧
 R (Value.int .i64 0) H5)
 (∃ x20c0 : Int, H4.cell ⟨s3b, 0, none⟩ = some (Value.int .i64 x20c0) ∧ ∃ x20c1 : Int, H4.cell ⟨s3b, 1, none⟩ = some (Value.int .i64 x20c1) ∧ ∃ x20c2 : Int, H4.cell ⟨s3b, 2, none⟩ = some (Value.int .u32 x20c2) ∧ ∃ x20c3 : Int, H4.cell ⟨s3b, 3, none⟩ = some (Value.int .u32 x20c3) ∧ ∃ x20c4 : Int, H4.cell ⟨s3b, 4, none⟩ = some (Value.int .i64 x20c4) ∧ ∃ x20c5 : Int, H4.cell ⟨s3b, 5, none⟩ = some (Value.int .i64 x20c5) ∧ ∃ x20c6 : Int, H4.cell ⟨s3b, 6, none⟩ = some (Value.int .i64 x20c6) ∧ ∃ x20c7 : Int, H4.cell ⟨s3b, 7, none⟩ = some (Value.int .i64 x20c7) ∧ ∃ (x20c8a : Option Addr) (x20c8n x20c8c : Nat), H4.cell ⟨s3b, 8, none⟩ = some (Value.slice x20c8a x20c8n x20c8c) ∧ FnW Tryz.prog Zby ⟨[(Value.agg ⟨[(Value.int .i64 x20c0), (Value.int .i64 x20c1), (Value.int .u32 x20c2), (Value.int .u32 x20c3), (Value.int .i64 x20c4), (Value.int .i64 x20c5), (Value.int .i64 x20c6), (Value.int .i64 x20c7), (Value.slice x20c8a x20c8n x20c8c)]⟩), (Value.int .i64 4)]⟩ H4 fun x21v H6 =>
 ∃ x21 : Bool, x21v = (Value.bool x21) ∧
 IfB x21
 (∃ x22c0 : Int, H6.cell ⟨s3b, 0, none⟩ = some (Value.int .i64 x22c0) ∧ ∃ x22c1 : Int, H6.cell ⟨s3b, 1, none⟩ = some (Value.int .i64 x22c1) ∧ ∃ x22c2 : Int, H6.cell ⟨s3b, 2, none⟩ = some (Value.int .u32 x22c2) ∧ ∃ x22c3 : Int, H6.cell ⟨s3b, 3, none⟩ = some (Value.int .u32 x22c3) ∧ ∃ x22c4 : Int, H6.cell ⟨s3b, 4, none⟩ = some (Value.int .i64 x22c4) ∧ ∃ x22c5 : Int, H6.cell ⟨s3b, 5, none⟩ = some (Value.int .i64 x22c5) ∧ ∃ x22c6 : Int, H6.cell ⟨s3b, 6, none⟩ = some (Value.int .i64 x22c6) ∧ ∃ x22c7 : Int, H6.cell ⟨s3b, 7, none⟩ = some (Value.int .i64 x22c7) ∧ ∃ (x22c8a : Option Addr) (x22c8n x22c8c : Nat), H6.cell ⟨s3b, 8, none⟩ = some (Value.slice x22c8a x22c8n x22c8c) ∧ FnW Tryz.prog Zby ⟨[(Value.agg ⟨[(Value.int .i64 x22c0), (Value.int .i64 x22c1), (Value.int .u32 x22c2), (Value.int .u32 x22c3), (Value.int .i64 x22c4), (Value.int .i64 x22c5), (Value.int .i64 x22c6), (Value.int .i64 x22c7), (Value.slice x22c8a x22c8n x22c8c)]⟩), (Value.int .i64 16)]⟩ H6 fun x23v H7 =>
 ∃ x23 : Bool, x23v = (Value.bool x23) ∧
 IfB (!x23)
 (R (Value.int .i64 0) H7)
 (FnW Tryz.prog Zkx ⟨[(Value.pointer (some ⟨c0b, 0, none⟩))]⟩ H7 fun x26v H8 =>
 ∃ x26 : Int, x26v = (Value.int .i64 x26) ∧
 R (Value.int .i64 x26) H8))
 (∃ x27c0 : Int, H6.cell ⟨s3b, 0, none⟩ = some (Value.int .i64 x27c0) ∧ ∃ x27c1 : Int, H6.cell ⟨s3b, 1, none⟩ = some (Value.int .i64 x27c1) ∧ ∃ x27c2 : Int, H6.cell ⟨s3b, 2, none⟩ = some (Value.int .u32 x27c2) ∧ ∃ x27c3 : Int, H6.cell ⟨s3b, 3, none⟩ = some (Value.int .u32 x27c3) ∧ ∃ x27c4 : Int, H6.cell ⟨s3b, 4, none⟩ = some (Value.int .i64 x27c4) ∧ ∃ x27c5 : Int, H6.cell ⟨s3b, 5, none⟩ = some (Value.int .i64 x27c5) ∧ ∃ x27c6 : Int, H6.cell ⟨s3b, 6, none⟩ = some (Value.int .i64 x27c6) ∧ ∃ x27c7 : Int, H6.cell ⟨s3b, 7, none⟩ = some (Value.int .i64 x27c7) ∧ ∃ (x27c8a : Option Addr) (x27c8n x27c8c : Nat), H6.cell ⟨s3b, 8, none⟩ = some (Value.slice x27c8a x27c8n x27c8c) ∧ FnW Tryz.prog Zby ⟨[(Value.agg ⟨[(Value.int .i64 x27c0), (Value.int .i64 x27c1), (Value.int .u32 x27c2), (Value.int .u32 x27c3), (Value.int .i64 x27c4), (Value.int .i64 x27c5), (Value.int .i64 x27c6), (Value.int .i64 x27c7), (Value.slice x27c8a x27c8n x27c8c)]⟩), (Value.int .i64 2)]⟩ H6 fun x28v H9 =>
 ∃ x28 : Bool, x28v = (Value.bool x28) ∧
 IfB (!x28)
 (R (Value.int .i64 0) H9)
 (∃ x31c0 : Int, H9.cell ⟨s3b, 0, none⟩ = some (Value.int .i64 x31c0) ∧ ∃ x31c1 : Int, H9.cell ⟨s3b, 1, none⟩ = some (Value.int .i64 x31c1) ∧ ∃ x31c2 : Int, H9.cell ⟨s3b, 2, none⟩ = some (Value.int .u32 x31c2) ∧ ∃ x31c3 : Int, H9.cell ⟨s3b, 3, none⟩ = some (Value.int .u32 x31c3) ∧ ∃ x31c4 : Int, H9.cell ⟨s3b, 4, none⟩ = some (Value.int .i64 x31c4) ∧ ∃ x31c5 : Int, H9.cell ⟨s3b, 5, none⟩ = some (Value.int .i64 x31c5) ∧ ∃ x31c6 : Int, H9.cell ⟨s3b, 6, none⟩ = some (Value.int .i64 x31c6) ∧ ∃ x31c7 : Int, H9.cell ⟨s3b, 7, none⟩ = some (Value.int .i64 x31c7) ∧ ∃ (x31c8a : Option Addr) (x31c8n x31c8c : Nat), H9.cell ⟨s3b, 8, none⟩ = some (Value.slice x31c8a x31c8n x31c8c) ∧ FnW Tryz.prog Zjl ⟨[(Value.pointer (some ⟨c0b, 0, none⟩)), (Value.agg ⟨[(Value.int .i64 x31c0), (Value.int .i64 x31c1), (Value.int .u32 x31c2), (Value.int .u32 x31c3), (Value.int .i64 x31c4), (Value.int .i64 x31c5), (Value.int .i64 x31c6), (Value.int .i64 x31c7), (Value.slice x31c8a x31c8n x31c8c)]⟩)]⟩ H9 fun x32v H10 =>
 x32v = (Value.tuple ⟨[]⟩) ∧
 ∃ x33c0 : Int, H10.cell ⟨s3b, 0, none⟩ = some (Value.int .i64 x33c0) ∧ ∃ x33c1 : Int, H10.cell ⟨s3b, 1, none⟩ = some (Value.int .i64 x33c1) ∧ ∃ x33c2 : Int, H10.cell ⟨s3b, 2, none⟩ = some (Value.int .u32 x33c2) ∧ ∃ x33c3 : Int, H10.cell ⟨s3b, 3, none⟩ = some (Value.int .u32 x33c3) ∧ ∃ x33c4 : Int, H10.cell ⟨s3b, 4, none⟩ = some (Value.int .i64 x33c4) ∧ ∃ x33c5 : Int, H10.cell ⟨s3b, 5, none⟩ = some (Value.int .i64 x33c5) ∧ ∃ x33c6 : Int, H10.cell ⟨s3b, 6, none⟩ = some (Value.int .i64 x33c6) ∧ ∃ x33c7 : Int, H10.cell ⟨s3b, 7, none⟩ = some (Value.int .i64 x33c7) ∧ ∃ (x33c8a : Option Addr) (x33c8n x33c8c : Nat), H10.cell ⟨s3b, 8, none⟩ = some (Value.slice x33c8a x33c8n x33c8c) ∧ FnW Tryz.prog Zby ⟨[(Value.agg ⟨[(Value.int .i64 x33c0), (Value.int .i64 x33c1), (Value.int .u32 x33c2), (Value.int .u32 x33c3), (Value.int .i64 x33c4), (Value.int .i64 x33c5), (Value.int .i64 x33c6), (Value.int .i64 x33c7), (Value.slice x33c8a x33c8n x33c8c)]⟩), (Value.int .i64 16)]⟩ H10 fun x34v H11 =>
 ∃ x34 : Bool, x34v = (Value.bool x34) ∧
 IfB (!x34)
 (Za H11 ⟨c0b, 0, none⟩ (Value.int .i64 2) fun H12 =>
 FnW Tryz.prog Zje ⟨[(Value.pointer (some ⟨c0b, 0, none⟩))]⟩ H12 fun x40v H13 =>
 x40v = (Value.tuple ⟨[]⟩) ∧
 R (Value.int .i64 0) H13)
 (∃ x42c0 : Int, H11.cell ⟨s3b, 0, none⟩ = some (Value.int .i64 x42c0) ∧ ∃ x42c1 : Int, H11.cell ⟨s3b, 1, none⟩ = some (Value.int .i64 x42c1) ∧ ∃ x42c2 : Int, H11.cell ⟨s3b, 2, none⟩ = some (Value.int .u32 x42c2) ∧ ∃ x42c3 : Int, H11.cell ⟨s3b, 3, none⟩ = some (Value.int .u32 x42c3) ∧ ∃ x42c4 : Int, H11.cell ⟨s3b, 4, none⟩ = some (Value.int .i64 x42c4) ∧ ∃ x42c5 : Int, H11.cell ⟨s3b, 5, none⟩ = some (Value.int .i64 x42c5) ∧ ∃ x42c6 : Int, H11.cell ⟨s3b, 6, none⟩ = some (Value.int .i64 x42c6) ∧ ∃ x42c7 : Int, H11.cell ⟨s3b, 7, none⟩ = some (Value.int .i64 x42c7) ∧ ∃ (x42c8a : Option Addr) (x42c8n x42c8c : Nat), H11.cell ⟨s3b, 8, none⟩ = some (Value.slice x42c8a x42c8n x42c8c) ∧ FnW Tryz.prog Zmb ⟨[(Value.pointer (some ⟨c0b, 0, none⟩)), (Value.agg ⟨[(Value.int .i64 x42c0), (Value.int .i64 x42c1), (Value.int .u32 x42c2), (Value.int .u32 x42c3), (Value.int .i64 x42c4), (Value.int .i64 x42c5), (Value.int .i64 x42c6), (Value.int .i64 x42c7), (Value.slice x42c8a x42c8n x42c8c)]⟩)]⟩ H11 fun x43v H14 =>
 x43v = (Value.tuple ⟨[]⟩) ∧
 FnW Tryz.prog Zhc ⟨[(Value.pointer (some ⟨c0b, 0, none⟩))]⟩ H14 fun x45v H15 =>
 x45v = (Value.tuple ⟨[]⟩) ∧
 ∃ (x49a : Option Addr) (x49n x49c : Nat), H15.cell ⟨c0b, 12, none⟩ = some (Value.slice x49a x49n x49c) ∧
 IfB (((x49n : Int) : Int) == 0)
 (FnW Tryz.prog Zju ⟨[(Value.pointer (some ⟨c0b, 0, none⟩))]⟩ H15 fun x53v H16 =>
 x53v = (Value.tuple ⟨[]⟩) ∧
 Zbau H16 R)
 (Zbau H15 R)))))
def Zuw (c0b : Nat) (s1c0 : Int) (s1c1 : Int) (s1c2 : Int) (s1c3 : Int) (s1c4 : Int) (s1c5 : Int) (s1c6 : Int) (s1c7 : Int) (s1c8a : Option Addr) (s1c8n : Nat) (s1c8c : Nat) (H : Heap) (R : Value -> Heap -> Prop) : Prop :=
 NewW H (Obj.cells ⟨[(Value.int .i64 s1c0), (Value.int .i64 s1c1), (Value.int .u32 s1c2), (Value.int .u32 s1c3), (Value.int .i64 s1c4), (Value.int .i64 s1c5), (Value.int .i64 s1c6), (Value.int .i64 s1c7), (Value.slice s1c8a s1c8n s1c8c)]⟩ Zl) fun s3b H1 =>
 ∃ bs : List Nat, (∀ b ∈ bs, ∃ o, H1 b = some o) ∧
 ∃ x5c0 : Int, H1.cell ⟨s3b, 0, none⟩ = some (Value.int .i64 x5c0) ∧ ∃ x5c1 : Int, H1.cell ⟨s3b, 1, none⟩ = some (Value.int .i64 x5c1) ∧ ∃ x5c2 : Int, H1.cell ⟨s3b, 2, none⟩ = some (Value.int .u32 x5c2) ∧ ∃ x5c3 : Int, H1.cell ⟨s3b, 3, none⟩ = some (Value.int .u32 x5c3) ∧ ∃ x5c4 : Int, H1.cell ⟨s3b, 4, none⟩ = some (Value.int .i64 x5c4) ∧ ∃ x5c5 : Int, H1.cell ⟨s3b, 5, none⟩ = some (Value.int .i64 x5c5) ∧ ∃ x5c6 : Int, H1.cell ⟨s3b, 6, none⟩ = some (Value.int .i64 x5c6) ∧ ∃ x5c7 : Int, H1.cell ⟨s3b, 7, none⟩ = some (Value.int .i64 x5c7) ∧ ∃ (x5c8a : Option Addr) (x5c8n x5c8c : Nat), H1.cell ⟨s3b, 8, none⟩ = some (Value.slice x5c8a x5c8n x5c8c) ∧ FnW Tryz.prog Zby ⟨[(Value.agg ⟨[(Value.int .i64 x5c0), (Value.int .i64 x5c1), (Value.int .u32 x5c2), (Value.int .u32 x5c3), (Value.int .i64 x5c4), (Value.int .i64 x5c5), (Value.int .i64 x5c6), (Value.int .i64 x5c7), (Value.slice x5c8a x5c8n x5c8c)]⟩), (Value.int .i64 16)]⟩ H1 fun x6v H2 =>
 ∃ x6 : Bool, x6v = (Value.bool x6) ∧
 Ze bs H1 H2 ∧ IfB x6
 (s3b ∈ bs ∧ ∃ x9 : Int, H1.cell ⟨s3b, 3, none⟩ = some (Value.int .u32 x9) ∧
 ∃ x13 : Int, H2.cell ⟨c0b, 3, none⟩ = some (Value.int .u32 x13) ∧
 FnW Tryz.prog Zcv ⟨[(Value.int .u32 x13), (Value.int .i64 1)]⟩ H2 fun x14v H3 =>
 ∃ x14 : Int, x14v = (Value.int .u32 x14) ∧
 Ze bs H1 H3 ∧ Zqi c0b s3b ((x9 : Int) != x14) H3 R)
 (Zqi c0b s3b false H2 R)
theorem Zbrg (c0b : Nat) (s1c0 : Int) (s1c1 : Int) (s1c2 : Int) (s1c3 : Int) (s1c4 : Int) (s1c5 : Int) (s1c6 : Int) (s1c7 : Int) (s1c8a : Option Addr) (s1c8n : Nat) (s1c8c : Nat) (H : Heap) (R : Value -> Heap -> Prop) : Zuw c0b s1c0 s1c1 s1c2 s1c3 s1c4 s1c5 s1c6 s1c7 s1c8a s1c8n s1c8c H R = Zc Tryz.prog Zblc (Zb Tryz.f87) (env0 [(Value.pointer (some ⟨c0b, 0, none⟩)), (Value.agg ⟨[(Value.int .i64 s1c0), (Value.int .i64 s1c1), (Value.int .u32 s1c2), (Value.int .u32 s1c3), (Value.int .i64 s1c4), (Value.int .i64 s1c5), (Value.int .i64 s1c6), (Value.int .i64 s1c7), (Value.slice s1c8a s1c8n s1c8c)]⟩)]) H (RetW Tryz.prog Tryz.f87.results.toList R) := by kernel_rfl
theorem Zceu (c0b : Nat) (s1c0 : Int) (s1c1 : Int) (s1c2 : Int) (s1c3 : Int) (s1c4 : Int) (s1c5 : Int) (s1c6 : Int) (s1c7 : Int) (s1c8a : Option Addr) (s1c8n : Nat) (s1c8c : Nat) {H : Heap} {R : Value -> Heap -> Prop} (h : Zuw c0b s1c0 s1c1 s1c2 s1c3 s1c4 s1c5 s1c6 s1c7 s1c8a s1c8n s1c8c H fun v H1 => ∀ H2, Shut H H1 H2 -> R v H2) : FnW Tryz.prog Zop ⟨[(Value.pointer (some ⟨c0b, 0, none⟩)), (Value.agg ⟨[(Value.int .i64 s1c0), (Value.int .i64 s1c1), (Value.int .u32 s1c2), (Value.int .u32 s1c3), (Value.int .i64 s1c4), (Value.int .i64 s1c5), (Value.int .i64 s1c6), (Value.int .i64 s1c7), (Value.slice s1c8a s1c8n s1c8c)]⟩)]⟩ H R := FnW.of_code Zbvg (by kernel_rfl) (Eq.mp (Zbrg c0b s1c0 s1c1 s1c2 s1c3 s1c4 s1c5 s1c6 s1c7 s1c8a s1c8n s1c8c H _) h)
def Zbcv : Plan := ⟨[(1, [0, 2, 3, 4, 5, 7, 8, 9, 1, 6, 10, 11, 12, 13, 14, 15, 16], [13, 16, 17]), (3, [0, 1, 2, 3, 4, 5, 6, 7, 8, 9, 10, 11, 12, 13, 14, 15, 16, 17, 18, 19, 20, 21], [44]), (9, [0, 1, 2, 3, 4, 5, 6, 7], [67])], [], [], []⟩
theorem Zbsx : Known Tryz.prog Zqg Tryz.f88 Zbcv (Zb Tryz.f88) := by refine ⟨Tryz.func88, ?_, ?_, ?_, ?_, ?_⟩ <;> kernel_rfl
def Zvc (H11 : Heap) (R : Value -> Heap -> Prop) : Prop :=
 R (Value.int .i64 0) H11
def Zjn (c0b : Nat) (H9 : Heap) (R : Value -> Heap -> Prop) : Prop :=
 FnW Tryz.prog Zju ⟨[(Value.pointer (some ⟨c0b, 0, none⟩))]⟩ H9 fun x102v H10 =>
 x102v = (Value.tuple ⟨[]⟩) ∧
 Zvc H10 R
def Zns (c0b : Nat) (x100 : Bool) (H19 : Heap) (R : Value -> Heap -> Prop) : Prop :=
 IfB x100
 (R (Value.int .i64 0) H19)
 (Zjn c0b H19 R)
def Zpi (c0b : Nat) (s3b : Nat) (H16 : Heap) (R : Value -> Heap -> Prop) : Prop :=
 ∃ x83 : Int, H16.cell ⟨c0b, 0, none⟩ = some (Value.int .i64 x83) ∧
 IfB ((x83 : Int) == 0)
 (R (Value.int .i64 0) H16)
 (∃ x86c0 : Int, H16.cell ⟨s3b, 0, none⟩ = some (Value.int .i64 x86c0) ∧ ∃ x86c1 : Int, H16.cell ⟨s3b, 1, none⟩ = some (Value.int .i64 x86c1) ∧ ∃ x86c2 : Int, H16.cell ⟨s3b, 2, none⟩ = some (Value.int .u32 x86c2) ∧ ∃ x86c3 : Int, H16.cell ⟨s3b, 3, none⟩ = some (Value.int .u32 x86c3) ∧ ∃ x86c4 : Int, H16.cell ⟨s3b, 4, none⟩ = some (Value.int .i64 x86c4) ∧ ∃ x86c5 : Int, H16.cell ⟨s3b, 5, none⟩ = some (Value.int .i64 x86c5) ∧ ∃ x86c6 : Int, H16.cell ⟨s3b, 6, none⟩ = some (Value.int .i64 x86c6) ∧ ∃ x86c7 : Int, H16.cell ⟨s3b, 7, none⟩ = some (Value.int .i64 x86c7) ∧ ∃ (x86c8a : Option Addr) (x86c8n x86c8c : Nat), H16.cell ⟨s3b, 8, none⟩ = some (Value.slice x86c8a x86c8n x86c8c) ∧ FnW Tryz.prog Zpj ⟨[(Value.pointer (some ⟨c0b, 0, none⟩)), (Value.agg ⟨[(Value.int .i64 x86c0), (Value.int .i64 x86c1), (Value.int .u32 x86c2), (Value.int .u32 x86c3), (Value.int .i64 x86c4), (Value.int .i64 x86c5), (Value.int .i64 x86c6), (Value.int .i64 x86c7), (Value.slice x86c8a x86c8n x86c8c)]⟩)]⟩ H16 fun x87v H17 =>
 x87v = (Value.tuple ⟨[]⟩) ∧
 FnW Tryz.prog Zhc ⟨[(Value.pointer (some ⟨c0b, 0, none⟩))]⟩ H17 fun x89v H18 =>
 x89v = (Value.tuple ⟨[]⟩) ∧
 ∃ (x93a : Option Addr) (x93n x93c : Nat), H18.cell ⟨c0b, 12, none⟩ = some (Value.slice x93a x93n x93c) ∧
 IfB (decide (((x93n : Int) : Int) > 0))
 (Zns c0b true H18 R)
 (∃ x97c0 : Int, H18.cell ⟨s3b, 0, none⟩ = some (Value.int .i64 x97c0) ∧ ∃ x97c1 : Int, H18.cell ⟨s3b, 1, none⟩ = some (Value.int .i64 x97c1) ∧ ∃ x97c2 : Int, H18.cell ⟨s3b, 2, none⟩ = some (Value.int .u32 x97c2) ∧ ∃ x97c3 : Int, H18.cell ⟨s3b, 3, none⟩ = some (Value.int .u32 x97c3) ∧ ∃ x97c4 : Int, H18.cell ⟨s3b, 4, none⟩ = some (Value.int .i64 x97c4) ∧ ∃ x97c5 : Int, H18.cell ⟨s3b, 5, none⟩ = some (Value.int .i64 x97c5) ∧ ∃ x97c6 : Int, H18.cell ⟨s3b, 6, none⟩ = some (Value.int .i64 x97c6) ∧ ∃ x97c7 : Int, H18.cell ⟨s3b, 7, none⟩ = some (Value.int .i64 x97c7) ∧ ∃ (x97c8a : Option Addr) (x97c8n x97c8c : Nat), H18.cell ⟨s3b, 8, none⟩ = some (Value.slice x97c8a x97c8n x97c8c) ∧ FnW Tryz.prog Zhx ⟨[(Value.agg ⟨[(Value.int .i64 x97c0), (Value.int .i64 x97c1), (Value.int .u32 x97c2), (Value.int .u32 x97c3), (Value.int .i64 x97c4), (Value.int .i64 x97c5), (Value.int .i64 x97c6), (Value.int .i64 x97c7), (Value.slice x97c8a x97c8n x97c8c)]⟩)]⟩ H18 fun x98v H20 =>
 ∃ x98 : Int, x98v = (Value.int .i64 x98) ∧
 Zns c0b ((x98 : Int) == 0) H20 R))
def Zew (c0b : Nat) (s3b : Nat) (x49 : Bool) (H8 : Heap) (R : Value -> Heap -> Prop) : Prop :=
 IfB x49
 (Zjn c0b H8 R)
 (∃ x50c0 : Int, H8.cell ⟨s3b, 0, none⟩ = some (Value.int .i64 x50c0) ∧ ∃ x50c1 : Int, H8.cell ⟨s3b, 1, none⟩ = some (Value.int .i64 x50c1) ∧ ∃ x50c2 : Int, H8.cell ⟨s3b, 2, none⟩ = some (Value.int .u32 x50c2) ∧ ∃ x50c3 : Int, H8.cell ⟨s3b, 3, none⟩ = some (Value.int .u32 x50c3) ∧ ∃ x50c4 : Int, H8.cell ⟨s3b, 4, none⟩ = some (Value.int .i64 x50c4) ∧ ∃ x50c5 : Int, H8.cell ⟨s3b, 5, none⟩ = some (Value.int .i64 x50c5) ∧ ∃ x50c6 : Int, H8.cell ⟨s3b, 6, none⟩ = some (Value.int .i64 x50c6) ∧ ∃ x50c7 : Int, H8.cell ⟨s3b, 7, none⟩ = some (Value.int .i64 x50c7) ∧ ∃ (x50c8a : Option Addr) (x50c8n x50c8c : Nat), H8.cell ⟨s3b, 8, none⟩ = some (Value.slice x50c8a x50c8n x50c8c) ∧ FnW Tryz.prog Zby ⟨[(Value.agg ⟨[(Value.int .i64 x50c0), (Value.int .i64 x50c1), (Value.int .u32 x50c2), (Value.int .u32 x50c3), (Value.int .i64 x50c4), (Value.int .i64 x50c5), (Value.int .i64 x50c6), (Value.int .i64 x50c7), (Value.slice x50c8a x50c8n x50c8c)]⟩), (Value.int .i64 4)]⟩ H8 fun x51v H12 =>
 ∃ x51 : Bool, x51v = (Value.bool x51) ∧
 IfB x51
 (FnW Tryz.prog Zkx ⟨[(Value.pointer (some ⟨c0b, 0, none⟩))]⟩ H12 fun x53v H13 =>
 ∃ x53 : Int, x53v = (Value.int .i64 x53) ∧
 R (Value.int .i64 x53) H13)
 (∃ x54c0 : Int, H12.cell ⟨s3b, 0, none⟩ = some (Value.int .i64 x54c0) ∧ ∃ x54c1 : Int, H12.cell ⟨s3b, 1, none⟩ = some (Value.int .i64 x54c1) ∧ ∃ x54c2 : Int, H12.cell ⟨s3b, 2, none⟩ = some (Value.int .u32 x54c2) ∧ ∃ x54c3 : Int, H12.cell ⟨s3b, 3, none⟩ = some (Value.int .u32 x54c3) ∧ ∃ x54c4 : Int, H12.cell ⟨s3b, 4, none⟩ = some (Value.int .i64 x54c4) ∧ ∃ x54c5 : Int, H12.cell ⟨s3b, 5, none⟩ = some (Value.int .i64 x54c5) ∧ ∃ x54c6 : Int, H12.cell ⟨s3b, 6, none⟩ = some (Value.int .i64 x54c6) ∧ ∃ x54c7 : Int, H12.cell ⟨s3b, 7, none⟩ = some (Value.int .i64 x54c7) ∧ ∃ (x54c8a : Option Addr) (x54c8n x54c8c : Nat), H12.cell ⟨s3b, 8, none⟩ = some (Value.slice x54c8a x54c8n x54c8c) ∧ FnW Tryz.prog Zby ⟨[(Value.agg ⟨[(Value.int .i64 x54c0), (Value.int .i64 x54c1), (Value.int .u32 x54c2), (Value.int .u32 x54c3), (Value.int .i64 x54c4), (Value.int .i64 x54c5), (Value.int .i64 x54c6), (Value.int .i64 x54c7), (Value.slice x54c8a x54c8n x54c8c)]⟩), (Value.int .i64 16)]⟩ H12 fun x55v H14 =>
 ∃ x55 : Bool, x55v = (Value.bool x55) ∧
 IfB (!x55)
 (R (Value.int .i64 0) H14)
 (∃ x60 : Int, H14.cell ⟨c0b, 0, none⟩ = some (Value.int .i64 x60) ∧
 IfB ((x60 : Int) != 2)
 (∃ x63c0 : Int, H14.cell ⟨s3b, 0, none⟩ = some (Value.int .i64 x63c0) ∧ ∃ x63c1 : Int, H14.cell ⟨s3b, 1, none⟩ = some (Value.int .i64 x63c1) ∧ ∃ x63c2 : Int, H14.cell ⟨s3b, 2, none⟩ = some (Value.int .u32 x63c2) ∧ ∃ x63c3 : Int, H14.cell ⟨s3b, 3, none⟩ = some (Value.int .u32 x63c3) ∧ ∃ x63c4 : Int, H14.cell ⟨s3b, 4, none⟩ = some (Value.int .i64 x63c4) ∧ ∃ x63c5 : Int, H14.cell ⟨s3b, 5, none⟩ = some (Value.int .i64 x63c5) ∧ ∃ x63c6 : Int, H14.cell ⟨s3b, 6, none⟩ = some (Value.int .i64 x63c6) ∧ ∃ x63c7 : Int, H14.cell ⟨s3b, 7, none⟩ = some (Value.int .i64 x63c7) ∧ ∃ (x63c8a : Option Addr) (x63c8n x63c8c : Nat), H14.cell ⟨s3b, 8, none⟩ = some (Value.slice x63c8a x63c8n x63c8c) ∧ FnW Tryz.prog Zpo ⟨[(Value.pointer (some ⟨c0b, 0, none⟩)), (Value.agg ⟨[(Value.int .i64 x63c0), (Value.int .i64 x63c1), (Value.int .u32 x63c2), (Value.int .u32 x63c3), (Value.int .i64 x63c4), (Value.int .i64 x63c5), (Value.int .i64 x63c6), (Value.int .i64 x63c7), (Value.slice x63c8a x63c8n x63c8c)]⟩)]⟩ H14 fun x64v H15 =>
 ∃ x64 : Bool, x64v = (Value.bool x64) ∧
 IfB (!x64)
 (Zjn c0b H15 R)
 (Zpi c0b s3b H15 R))
 (∃ bs : List Nat, (∀ b ∈ bs, ∃ o, H14 b = some o) ∧
 s3b ∈ bs ∧ ∃ x67 : Int, H14.cell ⟨s3b, 3, none⟩ = some (Value.int .u32 x67) ∧
 ∃ x71 : Int, H14.cell ⟨c0b, 3, none⟩ = some (Value.int .u32 x71) ∧
 FnW Tryz.prog Zcv ⟨[(Value.int .u32 x71), (Value.int .i64 1)]⟩ H14 fun x72v H21 =>
 ∃ x72 : Int, x72v = (Value.int .u32 x72) ∧
 Ze bs H14 H21 ∧ IfB ((x67 : Int) != x72)
 (∃ x75c0 : Int, H21.cell ⟨s3b, 0, none⟩ = some (Value.int .i64 x75c0) ∧ ∃ x75c1 : Int, H21.cell ⟨s3b, 1, none⟩ = some (Value.int .i64 x75c1) ∧ ∃ x75c2 : Int, H21.cell ⟨s3b, 2, none⟩ = some (Value.int .u32 x75c2) ∧ ∃ x75c3 : Int, H21.cell ⟨s3b, 3, none⟩ = some (Value.int .u32 x75c3) ∧ ∃ x75c4 : Int, H21.cell ⟨s3b, 4, none⟩ = some (Value.int .i64 x75c4) ∧ ∃ x75c5 : Int, H21.cell ⟨s3b, 5, none⟩ = some (Value.int .i64 x75c5) ∧ ∃ x75c6 : Int, H21.cell ⟨s3b, 6, none⟩ = some (Value.int .i64 x75c6) ∧ ∃ x75c7 : Int, H21.cell ⟨s3b, 7, none⟩ = some (Value.int .i64 x75c7) ∧ ∃ (x75c8a : Option Addr) (x75c8n x75c8c : Nat), H21.cell ⟨s3b, 8, none⟩ = some (Value.slice x75c8a x75c8n x75c8c) ∧ FnW Tryz.prog Zlq ⟨[(Value.pointer (some ⟨c0b, 0, none⟩)), (Value.agg ⟨[(Value.int .i64 x75c0), (Value.int .i64 x75c1), (Value.int .u32 x75c2), (Value.int .u32 x75c3), (Value.int .i64 x75c4), (Value.int .i64 x75c5), (Value.int .i64 x75c6), (Value.int .i64 x75c7), (Value.slice x75c8a x75c8n x75c8c)]⟩)]⟩ H21 fun x76v H22 =>
 x76v = (Value.tuple ⟨[]⟩) ∧
 R (Value.int .i64 0) H22)
 (∃ x78c0 : Int, H21.cell ⟨s3b, 0, none⟩ = some (Value.int .i64 x78c0) ∧ ∃ x78c1 : Int, H21.cell ⟨s3b, 1, none⟩ = some (Value.int .i64 x78c1) ∧ ∃ x78c2 : Int, H21.cell ⟨s3b, 2, none⟩ = some (Value.int .u32 x78c2) ∧ ∃ x78c3 : Int, H21.cell ⟨s3b, 3, none⟩ = some (Value.int .u32 x78c3) ∧ ∃ x78c4 : Int, H21.cell ⟨s3b, 4, none⟩ = some (Value.int .i64 x78c4) ∧ ∃ x78c5 : Int, H21.cell ⟨s3b, 5, none⟩ = some (Value.int .i64 x78c5) ∧ ∃ x78c6 : Int, H21.cell ⟨s3b, 6, none⟩ = some (Value.int .i64 x78c6) ∧ ∃ x78c7 : Int, H21.cell ⟨s3b, 7, none⟩ = some (Value.int .i64 x78c7) ∧ ∃ (x78c8a : Option Addr) (x78c8n x78c8c : Nat), H21.cell ⟨s3b, 8, none⟩ = some (Value.slice x78c8a x78c8n x78c8c) ∧ FnW Tryz.prog Zmb ⟨[(Value.pointer (some ⟨c0b, 0, none⟩)), (Value.agg ⟨[(Value.int .i64 x78c0), (Value.int .i64 x78c1), (Value.int .u32 x78c2), (Value.int .u32 x78c3), (Value.int .i64 x78c4), (Value.int .i64 x78c5), (Value.int .i64 x78c6), (Value.int .i64 x78c7), (Value.slice x78c8a x78c8n x78c8c)]⟩)]⟩ H21 fun x79v H23 =>
 x79v = (Value.tuple ⟨[]⟩) ∧
 Zpi c0b s3b H23 R)))))
def Zro (c0b : Nat) (s3b : Nat) (x19r0 : Bool) (x27 : Bool) (H7 : Heap) (R : Value -> Heap -> Prop) : Prop :=
 IfB x27
 (R (Value.int .i64 0) H7)
 (∃ bs : List Nat, (∀ b ∈ bs, ∃ o, H7 b = some o) ∧
 IfB (!x19r0)
 (Zew c0b s3b true H7 R)
 (∃ x31c0 : Int, H7.cell ⟨s3b, 0, none⟩ = some (Value.int .i64 x31c0) ∧ ∃ x31c1 : Int, H7.cell ⟨s3b, 1, none⟩ = some (Value.int .i64 x31c1) ∧ ∃ x31c2 : Int, H7.cell ⟨s3b, 2, none⟩ = some (Value.int .u32 x31c2) ∧ ∃ x31c3 : Int, H7.cell ⟨s3b, 3, none⟩ = some (Value.int .u32 x31c3) ∧ ∃ x31c4 : Int, H7.cell ⟨s3b, 4, none⟩ = some (Value.int .i64 x31c4) ∧ ∃ x31c5 : Int, H7.cell ⟨s3b, 5, none⟩ = some (Value.int .i64 x31c5) ∧ ∃ x31c6 : Int, H7.cell ⟨s3b, 6, none⟩ = some (Value.int .i64 x31c6) ∧ ∃ x31c7 : Int, H7.cell ⟨s3b, 7, none⟩ = some (Value.int .i64 x31c7) ∧ ∃ (x31c8a : Option Addr) (x31c8n x31c8c : Nat), H7.cell ⟨s3b, 8, none⟩ = some (Value.slice x31c8a x31c8n x31c8c) ∧ FnW Tryz.prog Zby ⟨[(Value.agg ⟨[(Value.int .i64 x31c0), (Value.int .i64 x31c1), (Value.int .u32 x31c2), (Value.int .u32 x31c3), (Value.int .i64 x31c4), (Value.int .i64 x31c5), (Value.int .i64 x31c6), (Value.int .i64 x31c7), (Value.slice x31c8a x31c8n x31c8c)]⟩), (Value.int .i64 2)]⟩ H7 fun x32v H24 =>
 ∃ x32 : Bool, x32v = (Value.bool x32) ∧
 Ze bs H7 H24 ∧ IfB x32
 (∃ x34c0 : Int, H24.cell ⟨s3b, 0, none⟩ = some (Value.int .i64 x34c0) ∧ ∃ x34c1 : Int, H24.cell ⟨s3b, 1, none⟩ = some (Value.int .i64 x34c1) ∧ ∃ x34c2 : Int, H24.cell ⟨s3b, 2, none⟩ = some (Value.int .u32 x34c2) ∧ ∃ x34c3 : Int, H24.cell ⟨s3b, 3, none⟩ = some (Value.int .u32 x34c3) ∧ ∃ x34c4 : Int, H24.cell ⟨s3b, 4, none⟩ = some (Value.int .i64 x34c4) ∧ ∃ x34c5 : Int, H24.cell ⟨s3b, 5, none⟩ = some (Value.int .i64 x34c5) ∧ ∃ x34c6 : Int, H24.cell ⟨s3b, 6, none⟩ = some (Value.int .i64 x34c6) ∧ ∃ x34c7 : Int, H24.cell ⟨s3b, 7, none⟩ = some (Value.int .i64 x34c7) ∧ ∃ (x34c8a : Option Addr) (x34c8n x34c8c : Nat), H24.cell ⟨s3b, 8, none⟩ = some (Value.slice x34c8a x34c8n x34c8c) ∧ FnW Tryz.prog Zby ⟨[(Value.agg ⟨[(Value.int .i64 x34c0), (Value.int .i64 x34c1), (Value.int .u32 x34c2), (Value.int .u32 x34c3), (Value.int .i64 x34c4), (Value.int .i64 x34c5), (Value.int .i64 x34c6), (Value.int .i64 x34c7), (Value.slice x34c8a x34c8n x34c8c)]⟩), (Value.int .i64 4)]⟩ H24 fun x35v H25 =>
 ∃ x35 : Bool, x35v = (Value.bool x35) ∧
 Ze bs H7 H25 ∧ IfB (!x35)
 (Zew c0b s3b true H25 R)
 (∃ x40c0 : Int, H25.cell ⟨s3b, 0, none⟩ = some (Value.int .i64 x40c0) ∧ ∃ x40c1 : Int, H25.cell ⟨s3b, 1, none⟩ = some (Value.int .i64 x40c1) ∧ ∃ x40c2 : Int, H25.cell ⟨s3b, 2, none⟩ = some (Value.int .u32 x40c2) ∧ ∃ x40c3 : Int, H25.cell ⟨s3b, 3, none⟩ = some (Value.int .u32 x40c3) ∧ ∃ x40c4 : Int, H25.cell ⟨s3b, 4, none⟩ = some (Value.int .i64 x40c4) ∧ ∃ x40c5 : Int, H25.cell ⟨s3b, 5, none⟩ = some (Value.int .i64 x40c5) ∧ ∃ x40c6 : Int, H25.cell ⟨s3b, 6, none⟩ = some (Value.int .i64 x40c6) ∧ ∃ x40c7 : Int, H25.cell ⟨s3b, 7, none⟩ = some (Value.int .i64 x40c7) ∧ ∃ (x40c8a : Option Addr) (x40c8n x40c8c : Nat), H25.cell ⟨s3b, 8, none⟩ = some (Value.slice x40c8a x40c8n x40c8c) ∧ FnW Tryz.prog Zby ⟨[(Value.agg ⟨[(Value.int .i64 x40c0), (Value.int .i64 x40c1), (Value.int .u32 x40c2), (Value.int .u32 x40c3), (Value.int .i64 x40c4), (Value.int .i64 x40c5), (Value.int .i64 x40c6), (Value.int .i64 x40c7), (Value.slice x40c8a x40c8n x40c8c)]⟩), (Value.int .i64 4)]⟩ H25 fun x41v H26 =>
 ∃ x41 : Bool, x41v = (Value.bool x41) ∧
 Ze bs H7 H26 ∧ IfB x41
 (s3b ∈ bs ∧ ∃ x44 : Int, H7.cell ⟨s3b, 2, none⟩ = some (Value.int .u32 x44) ∧
 FnW Tryz.prog Zgl ⟨[(Value.pointer (some ⟨c0b, 0, none⟩))]⟩ H26 fun x46v H27 =>
 ∃ x46 : Int, x46v = (Value.int .u32 x46) ∧
 Ze bs H7 H27 ∧ Zew c0b s3b ((x44 : Int) != x46) H27 R)
 (Zew c0b s3b false H26 R)))
 (∃ x40c0_1 : Int, H24.cell ⟨s3b, 0, none⟩ = some (Value.int .i64 x40c0_1) ∧ ∃ x40c1_1 : Int, H24.cell ⟨s3b, 1, none⟩ = some (Value.int .i64 x40c1_1) ∧ ∃ x40c2_1 : Int, H24.cell ⟨s3b, 2, none⟩ = some (Value.int .u32 x40c2_1) ∧ ∃ x40c3_1 : Int, H24.cell ⟨s3b, 3, none⟩ = some (Value.int .u32 x40c3_1) ∧ ∃ x40c4_1 : Int, H24.cell ⟨s3b, 4, none⟩ = some (Value.int .i64 x40c4_1) ∧ ∃ x40c5_1 : Int, H24.cell ⟨s3b, 5, none⟩ = some (Value.int .i64 x40c5_1) ∧ ∃ x40c6_1 : Int, H24.cell ⟨s3b, 6, none⟩ = some (Value.int .i64 x40c6_1) ∧ ∃ x40c7_1 : Int, H24.cell ⟨s3b, 7, none⟩ = some (Value.int .i64 x40c7_1) ∧ ∃ (x40c8a_1 : Option Addr) (x40c8n_1 x40c8c_1 : Nat), H24.cell ⟨s3b, 8, none⟩ = some (Value.slice x40c8a_1 x40c8n_1 x40c8c_1) ∧ FnW Tryz.prog Zby ⟨[(Value.agg ⟨[(Value.int .i64 x40c0_1), (Value.int .i64 x40c1_1), (Value.int .u32 x40c2_1), (Value.int .u32 x40c3_1), (Value.int .i64 x40c4_1), (Value.int .i64 x40c5_1), (Value.int .i64 x40c6_1), (Value.int .i64 x40c7_1), (Value.slice x40c8a_1 x40c8n_1 x40c8c_1)]⟩), (Value.int .i64 4)]⟩ H24 fun x41v_1 H28 =>
 ∃ x41_1 : Bool, x41v_1 = (Value.bool x41_1) ∧
 Ze bs H7 H28 ∧ IfB x41_1
 (s3b ∈ bs ∧ ∃ x44_1 : Int, H7.cell ⟨s3b, 2, none⟩ = some (Value.int .u32 x44_1) ∧
 FnW Tryz.prog Zgl ⟨[(Value.pointer (some ⟨c0b, 0, none⟩))]⟩ H28 fun x46v_1 H29 =>
 ∃ x46_1 : Int, x46v_1 = (Value.int .u32 x46_1) ∧
 Ze bs H7 H29 ∧ Zew c0b s3b ((x44_1 : Int) != x46_1) H29 R)
 (Zew c0b s3b false H28 R))))
def Zxx (c0b : Nat) (s1c0 : Int) (s1c1 : Int) (s1c2 : Int) (s1c3 : Int) (s1c4 : Int) (s1c5 : Int) (s1c6 : Int) (s1c7 : Int) (s1c8a : Option Addr) (s1c8n : Nat) (s1c8c : Nat) (H : Heap) (R : Value -> Heap -> Prop) : Prop :=
 NewW H (Obj.cells ⟨[(Value.int .i64 s1c0), (Value.int .i64 s1c1), (Value.int .u32 s1c2), (Value.int .u32 s1c3), (Value.int .i64 s1c4), (Value.int .i64 s1c5), (Value.int .i64 s1c6), (Value.int .i64 s1c7), (Value.slice s1c8a s1c8n s1c8c)]⟩ Zl) fun s3b H1 =>
 ∃ bs : List Nat, (∀ b ∈ bs, ∃ o, H1 b = some o) ∧
 c0b ∈ bs ∧ ∃ x13 : Option Addr, H1.cell ⟨c0b, 5, none⟩ = some (Value.pointer x13) ∧
 s3b ∈ bs ∧ ∃ x16 : Int, H1.cell ⟨s3b, 2, none⟩ = some (Value.int .u32 x16) ∧
 s3b ∈ bs ∧ ∃ x17c0 : Int, H1.cell ⟨s3b, 0, none⟩ = some (Value.int .i64 x17c0) ∧ ∃ x17c1 : Int, H1.cell ⟨s3b, 1, none⟩ = some (Value.int .i64 x17c1) ∧ ∃ x17c2 : Int, H1.cell ⟨s3b, 2, none⟩ = some (Value.int .u32 x17c2) ∧ ∃ x17c3 : Int, H1.cell ⟨s3b, 3, none⟩ = some (Value.int .u32 x17c3) ∧ ∃ x17c4 : Int, H1.cell ⟨s3b, 4, none⟩ = some (Value.int .i64 x17c4) ∧ ∃ x17c5 : Int, H1.cell ⟨s3b, 5, none⟩ = some (Value.int .i64 x17c5) ∧ ∃ x17c6 : Int, H1.cell ⟨s3b, 6, none⟩ = some (Value.int .i64 x17c6) ∧ ∃ x17c7 : Int, H1.cell ⟨s3b, 7, none⟩ = some (Value.int .i64 x17c7) ∧ ∃ (x17c8a : Option Addr) (x17c8n x17c8c : Nat), H1.cell ⟨s3b, 8, none⟩ = some (Value.slice x17c8a x17c8n x17c8c) ∧ FnW Tryz.prog Zgl ⟨[(Value.pointer (some ⟨c0b, 0, none⟩))]⟩ H1 fun x9v H2 =>
 ∃ x9 : Int, x9v = (Value.int .u32 x9) ∧
 Ze bs H1 H2 ∧ FnW Tryz.prog Zga ⟨[(Value.pointer x13)]⟩ H2 fun x14v H3 =>
 ∃ x14 : Int, x14v = (Value.int .i64 x14) ∧
 Ze bs H1 H3 ∧ FnW Tryz.prog Zhx ⟨[(Value.agg ⟨[(Value.int .i64 x17c0), (Value.int .i64 x17c1), (Value.int .u32 x17c2), (Value.int .u32 x17c3), (Value.int .i64 x17c4), (Value.int .i64 x17c5), (Value.int .i64 x17c6), (Value.int .i64 x17c7), (Value.slice x17c8a x17c8n x17c8c)]⟩)]⟩ H3 fun x18v H4 =>
 ∃ x18 : Int, x18v = (Value.int .i64 x18) ∧
 Ze bs H1 H4 ∧ FnW Tryz.prog Zrj ⟨[(Value.int .u32 x9), (Value.int .i64 x14), (Value.int .u32 x16), (Value.int .i64 x18)]⟩ H4 fun x19v H5 =>
 ∃ x19r0 : Bool, ∃ x19r1 : Int, x19v = (Value.tuple ⟨[(Value.bool x19r0), (Value.int .i64 x19r1)]⟩) ∧
 Ze bs H1 H5 ∧ IfB (!x19r0)
 (∃ x25c0 : Int, H5.cell ⟨s3b, 0, none⟩ = some (Value.int .i64 x25c0) ∧ ∃ x25c1 : Int, H5.cell ⟨s3b, 1, none⟩ = some (Value.int .i64 x25c1) ∧ ∃ x25c2 : Int, H5.cell ⟨s3b, 2, none⟩ = some (Value.int .u32 x25c2) ∧ ∃ x25c3 : Int, H5.cell ⟨s3b, 3, none⟩ = some (Value.int .u32 x25c3) ∧ ∃ x25c4 : Int, H5.cell ⟨s3b, 4, none⟩ = some (Value.int .i64 x25c4) ∧ ∃ x25c5 : Int, H5.cell ⟨s3b, 5, none⟩ = some (Value.int .i64 x25c5) ∧ ∃ x25c6 : Int, H5.cell ⟨s3b, 6, none⟩ = some (Value.int .i64 x25c6) ∧ ∃ x25c7 : Int, H5.cell ⟨s3b, 7, none⟩ = some (Value.int .i64 x25c7) ∧ ∃ (x25c8a : Option Addr) (x25c8n x25c8c : Nat), H5.cell ⟨s3b, 8, none⟩ = some (Value.slice x25c8a x25c8n x25c8c) ∧ FnW Tryz.prog Zby ⟨[(Value.agg ⟨[(Value.int .i64 x25c0), (Value.int .i64 x25c1), (Value.int .u32 x25c2), (Value.int .u32 x25c3), (Value.int .i64 x25c4), (Value.int .i64 x25c5), (Value.int .i64 x25c6), (Value.int .i64 x25c7), (Value.slice x25c8a x25c8n x25c8c)]⟩), (Value.int .i64 4)]⟩ H5 fun x26v H6 =>
 ∃ x26 : Bool, x26v = (Value.bool x26) ∧
 Zro c0b s3b x19r0 x26 H6 R)
 (Zro c0b s3b x19r0 false H5 R)
theorem Zboe (c0b : Nat) (s1c0 : Int) (s1c1 : Int) (s1c2 : Int) (s1c3 : Int) (s1c4 : Int) (s1c5 : Int) (s1c6 : Int) (s1c7 : Int) (s1c8a : Option Addr) (s1c8n : Nat) (s1c8c : Nat) (H : Heap) (R : Value -> Heap -> Prop) : Zxx c0b s1c0 s1c1 s1c2 s1c3 s1c4 s1c5 s1c6 s1c7 s1c8a s1c8n s1c8c H R = Zc Tryz.prog Zbcv (Zb Tryz.f88) (env0 [(Value.pointer (some ⟨c0b, 0, none⟩)), (Value.agg ⟨[(Value.int .i64 s1c0), (Value.int .i64 s1c1), (Value.int .u32 s1c2), (Value.int .u32 s1c3), (Value.int .i64 s1c4), (Value.int .i64 s1c5), (Value.int .i64 s1c6), (Value.int .i64 s1c7), (Value.slice s1c8a s1c8n s1c8c)]⟩)]) H (RetW Tryz.prog Tryz.f88.results.toList R) := by kernel_rfl
theorem Zcje (c0b : Nat) (s1c0 : Int) (s1c1 : Int) (s1c2 : Int) (s1c3 : Int) (s1c4 : Int) (s1c5 : Int) (s1c6 : Int) (s1c7 : Int) (s1c8a : Option Addr) (s1c8n : Nat) (s1c8c : Nat) {H : Heap} {R : Value -> Heap -> Prop} (h : Zxx c0b s1c0 s1c1 s1c2 s1c3 s1c4 s1c5 s1c6 s1c7 s1c8a s1c8n s1c8c H fun v H1 => ∀ H2, Shut H H1 H2 -> R v H2) : FnW Tryz.prog Zqg ⟨[(Value.pointer (some ⟨c0b, 0, none⟩)), (Value.agg ⟨[(Value.int .i64 s1c0), (Value.int .i64 s1c1), (Value.int .u32 s1c2), (Value.int .u32 s1c3), (Value.int .i64 s1c4), (Value.int .i64 s1c5), (Value.int .i64 s1c6), (Value.int .i64 s1c7), (Value.slice s1c8a s1c8n s1c8c)]⟩)]⟩ H R := FnW.of_code Zbsx (by kernel_rfl) (Eq.mp (Zboe c0b s1c0 s1c1 s1c2 s1c3 s1c4 s1c5 s1c6 s1c7 s1c8a s1c8n s1c8c H _) h)
def Zbmj : Plan := ⟨[(3, [0, 1, 2, 3, 4, 5, 6], [15])], [], [], []⟩
theorem Zcdo : Known Tryz.prog Zkp Tryz.f90 Zbmj (Zb Tryz.f90) := by refine ⟨Tryz.func90, ?_, ?_, ?_, ?_, ?_⟩ <;> kernel_rfl
def Zpt (x2b : Nat) (back4b : Nat) (H25 : Heap) (R : Value -> Heap -> Prop) : Prop :=
 ∃ x30c0 : Int, H25.cell ⟨back4b, 0, none⟩ = some (Value.int .i64 x30c0) ∧ ∃ x30c1 : Int, H25.cell ⟨back4b, 1, none⟩ = some (Value.int .i64 x30c1) ∧ ∃ x30c2 : Int, H25.cell ⟨back4b, 2, none⟩ = some (Value.int .u32 x30c2) ∧ ∃ x30c3 : Int, H25.cell ⟨back4b, 3, none⟩ = some (Value.int .u32 x30c3) ∧ ∃ x30c4 : Int, H25.cell ⟨back4b, 4, none⟩ = some (Value.int .i64 x30c4) ∧ ∃ x30c5 : Int, H25.cell ⟨back4b, 5, none⟩ = some (Value.int .i64 x30c5) ∧ ∃ x30c6 : Int, H25.cell ⟨back4b, 6, none⟩ = some (Value.int .i64 x30c6) ∧ ∃ x30c7 : Int, H25.cell ⟨back4b, 7, none⟩ = some (Value.int .i64 x30c7) ∧ ∃ (x30c8a : Option Addr) (x30c8n x30c8c : Nat), H25.cell ⟨back4b, 8, none⟩ = some (Value.slice x30c8a x30c8n x30c8c) ∧ Za H25 ⟨x2b, 0, none⟩ (Value.int .i64 x30c0) fun H26 =>
 Za H26 ⟨x2b, 1, none⟩ (Value.int .i64 x30c1) fun H27 =>
 Za H27 ⟨x2b, 2, none⟩ (Value.int .u32 x30c2) fun H28 =>
 Za H28 ⟨x2b, 3, none⟩ (Value.int .u32 x30c3) fun H29 =>
 Za H29 ⟨x2b, 4, none⟩ (Value.int .i64 x30c4) fun H30 =>
 Za H30 ⟨x2b, 5, none⟩ (Value.int .i64 x30c5) fun H31 =>
 Za H31 ⟨x2b, 6, none⟩ (Value.int .i64 x30c6) fun H32 =>
 Za H32 ⟨x2b, 7, none⟩ (Value.int .i64 x30c7) fun H33 =>
 Za H33 ⟨x2b, 8, none⟩ (Value.slice x30c8a x30c8n x30c8c) fun H34 =>
 ∃ r0c0_1 : Int, H34.cell ⟨x2b, 0, none⟩ = some (Value.int .i64 r0c0_1) ∧ ∃ r0c1_1 : Int, H34.cell ⟨x2b, 1, none⟩ = some (Value.int .i64 r0c1_1) ∧ ∃ r0c2_1 : Int, H34.cell ⟨x2b, 2, none⟩ = some (Value.int .u32 r0c2_1) ∧ ∃ r0c3_1 : Int, H34.cell ⟨x2b, 3, none⟩ = some (Value.int .u32 r0c3_1) ∧ ∃ r0c4_1 : Int, H34.cell ⟨x2b, 4, none⟩ = some (Value.int .i64 r0c4_1) ∧ ∃ r0c5_1 : Int, H34.cell ⟨x2b, 5, none⟩ = some (Value.int .i64 r0c5_1) ∧ ∃ r0c6_1 : Int, H34.cell ⟨x2b, 6, none⟩ = some (Value.int .i64 r0c6_1) ∧ ∃ r0c7_1 : Int, H34.cell ⟨x2b, 7, none⟩ = some (Value.int .i64 r0c7_1) ∧ ∃ (r0c8a_1 : Option Addr) (r0c8n_1 r0c8c_1 : Nat), H34.cell ⟨x2b, 8, none⟩ = some (Value.slice r0c8a_1 r0c8n_1 r0c8c_1) ∧ R (Value.tuple ⟨[(Value.agg ⟨[(Value.int .i64 r0c0_1), (Value.int .i64 r0c1_1), (Value.int .u32 r0c2_1), (Value.int .u32 r0c3_1), (Value.int .i64 r0c4_1), (Value.int .i64 r0c5_1), (Value.int .i64 r0c6_1), (Value.int .i64 r0c7_1), (Value.slice r0c8a_1 r0c8n_1 r0c8c_1)]⟩), (Value.bool true)]⟩) H34
def Zwi (s0c0 : Int) (s0c1 : Int) (s0c2 : Int) (s0c3 : Int) (s0c4 : Int) (s0c5 : Int) (s0c6 : Int) (s0c7 : Int) (s0c8a : Option Addr) (s0c8n : Nat) (s0c8c : Nat) (H : Heap) (R : Value -> Heap -> Prop) : Prop :=
 NewW H (Obj.cells ⟨[(Value.int .i64 s0c0), (Value.int .i64 s0c1), (Value.int .u32 s0c2), (Value.int .u32 s0c3), (Value.int .i64 s0c4), (Value.int .i64 s0c5), (Value.int .i64 s0c6), (Value.int .i64 s0c7), (Value.slice s0c8a s0c8n s0c8c)]⟩ Zl) fun s1b H1 =>
 NewW H1 (Obj.cells ⟨[(Value.int .i64 0), (Value.int .i64 0), (Value.int .u32 0), (Value.int .u32 0), (Value.int .i64 0), (Value.int .i64 0), (Value.int .i64 0), (Value.int .i64 0), (Value.slice none 0 0)]⟩ Zl) fun x2b H2 =>
 ∃ x6 : Int, H2.cell ⟨s1b, 1, none⟩ = some (Value.int .i64 x6) ∧
 ∃ x8 : Int, H2.cell ⟨s1b, 0, none⟩ = some (Value.int .i64 x8) ∧
 NewW H2 (Obj.cells ⟨[(Value.int .i64 0), (Value.int .i64 0), (Value.int .u32 0), (Value.int .u32 0), (Value.int .i64 0), (Value.int .i64 0), (Value.int .i64 0), (Value.int .i64 0), (Value.slice none 0 0)]⟩ Zl) fun back4b H3 =>
 Za H3 ⟨back4b, 0, none⟩ (Value.int .i64 x6) fun H4 =>
 Za H4 ⟨back4b, 1, none⟩ (Value.int .i64 x8) fun H5 =>
 Za H5 ⟨back4b, 2, none⟩ (Value.int .u32 0) fun H6 =>
 Za H6 ⟨back4b, 3, none⟩ (Value.int .u32 0) fun H7 =>
 Za H7 ⟨back4b, 4, none⟩ (Value.int .i64 4) fun H8 =>
 Za H8 ⟨back4b, 5, none⟩ (Value.int .i64 0) fun H9 =>
 Za H9 ⟨back4b, 6, none⟩ (Value.int .i64 0) fun H10 =>
 Za H10 ⟨back4b, 7, none⟩ (Value.int .i64 0) fun H11 =>
 Za H11 ⟨back4b, 8, none⟩ (Value.slice none 0 0) fun H12 =>
 ∃ x21c0 : Int, H12.cell ⟨s1b, 0, none⟩ = some (Value.int .i64 x21c0) ∧ ∃ x21c1 : Int, H12.cell ⟨s1b, 1, none⟩ = some (Value.int .i64 x21c1) ∧ ∃ x21c2 : Int, H12.cell ⟨s1b, 2, none⟩ = some (Value.int .u32 x21c2) ∧ ∃ x21c3 : Int, H12.cell ⟨s1b, 3, none⟩ = some (Value.int .u32 x21c3) ∧ ∃ x21c4 : Int, H12.cell ⟨s1b, 4, none⟩ = some (Value.int .i64 x21c4) ∧ ∃ x21c5 : Int, H12.cell ⟨s1b, 5, none⟩ = some (Value.int .i64 x21c5) ∧ ∃ x21c6 : Int, H12.cell ⟨s1b, 6, none⟩ = some (Value.int .i64 x21c6) ∧ ∃ x21c7 : Int, H12.cell ⟨s1b, 7, none⟩ = some (Value.int .i64 x21c7) ∧ ∃ (x21c8a : Option Addr) (x21c8n x21c8c : Nat), H12.cell ⟨s1b, 8, none⟩ = some (Value.slice x21c8a x21c8n x21c8c) ∧ FnW Tryz.prog Zhn ⟨[(Value.agg ⟨[(Value.int .i64 x21c0), (Value.int .i64 x21c1), (Value.int .u32 x21c2), (Value.int .u32 x21c3), (Value.int .i64 x21c4), (Value.int .i64 x21c5), (Value.int .i64 x21c6), (Value.int .i64 x21c7), (Value.slice x21c8a x21c8n x21c8c)]⟩), (Value.int .i64 2)]⟩ H12 fun x22v H13 =>
 ∃ x22 : Bool, x22v = (Value.bool x22) ∧
 IfB x22
 (Za H13 ⟨x2b, 0, none⟩ (Value.int .i64 0) fun H14 =>
 Za H14 ⟨x2b, 1, none⟩ (Value.int .i64 0) fun H15 =>
 Za H15 ⟨x2b, 2, none⟩ (Value.int .u32 0) fun H16 =>
 Za H16 ⟨x2b, 3, none⟩ (Value.int .u32 0) fun H17 =>
 Za H17 ⟨x2b, 4, none⟩ (Value.int .i64 0) fun H18 =>
 Za H18 ⟨x2b, 5, none⟩ (Value.int .i64 0) fun H19 =>
 Za H19 ⟨x2b, 6, none⟩ (Value.int .i64 0) fun H20 =>
 Za H20 ⟨x2b, 7, none⟩ (Value.int .i64 0) fun H21 =>
 Za H21 ⟨x2b, 8, none⟩ (Value.slice none 0 0) fun H22 =>
 ∃ r0c0 : Int, H22.cell ⟨x2b, 0, none⟩ = some (Value.int .i64 r0c0) ∧ ∃ r0c1 : Int, H22.cell ⟨x2b, 1, none⟩ = some (Value.int .i64 r0c1) ∧ ∃ r0c2 : Int, H22.cell ⟨x2b, 2, none⟩ = some (Value.int .u32 r0c2) ∧ ∃ r0c3 : Int, H22.cell ⟨x2b, 3, none⟩ = some (Value.int .u32 r0c3) ∧ ∃ r0c4 : Int, H22.cell ⟨x2b, 4, none⟩ = some (Value.int .i64 r0c4) ∧ ∃ r0c5 : Int, H22.cell ⟨x2b, 5, none⟩ = some (Value.int .i64 r0c5) ∧ ∃ r0c6 : Int, H22.cell ⟨x2b, 6, none⟩ = some (Value.int .i64 r0c6) ∧ ∃ r0c7 : Int, H22.cell ⟨x2b, 7, none⟩ = some (Value.int .i64 r0c7) ∧ ∃ (r0c8a : Option Addr) (r0c8n r0c8c : Nat), H22.cell ⟨x2b, 8, none⟩ = some (Value.slice r0c8a r0c8n r0c8c) ∧ R (Value.tuple ⟨[(Value.agg ⟨[(Value.int .i64 r0c0), (Value.int .i64 r0c1), (Value.int .u32 r0c2), (Value.int .u32 r0c3), (Value.int .i64 r0c4), (Value.int .i64 r0c5), (Value.int .i64 r0c6), (Value.int .i64 r0c7), (Value.slice r0c8a r0c8n r0c8c)]⟩), (Value.bool false)]⟩) H22)
 (∃ x25c0 : Int, H13.cell ⟨s1b, 0, none⟩ = some (Value.int .i64 x25c0) ∧ ∃ x25c1 : Int, H13.cell ⟨s1b, 1, none⟩ = some (Value.int .i64 x25c1) ∧ ∃ x25c2 : Int, H13.cell ⟨s1b, 2, none⟩ = some (Value.int .u32 x25c2) ∧ ∃ x25c3 : Int, H13.cell ⟨s1b, 3, none⟩ = some (Value.int .u32 x25c3) ∧ ∃ x25c4 : Int, H13.cell ⟨s1b, 4, none⟩ = some (Value.int .i64 x25c4) ∧ ∃ x25c5 : Int, H13.cell ⟨s1b, 5, none⟩ = some (Value.int .i64 x25c5) ∧ ∃ x25c6 : Int, H13.cell ⟨s1b, 6, none⟩ = some (Value.int .i64 x25c6) ∧ ∃ x25c7 : Int, H13.cell ⟨s1b, 7, none⟩ = some (Value.int .i64 x25c7) ∧ ∃ (x25c8a : Option Addr) (x25c8n x25c8c : Nat), H13.cell ⟨s1b, 8, none⟩ = some (Value.slice x25c8a x25c8n x25c8c) ∧ FnW Tryz.prog Zhn ⟨[(Value.agg ⟨[(Value.int .i64 x25c0), (Value.int .i64 x25c1), (Value.int .u32 x25c2), (Value.int .u32 x25c3), (Value.int .i64 x25c4), (Value.int .i64 x25c5), (Value.int .i64 x25c6), (Value.int .i64 x25c7), (Value.slice x25c8a x25c8n x25c8c)]⟩), (Value.int .i64 4)]⟩ H13 fun x26v H23 =>
 ∃ x26 : Bool, x26v = (Value.bool x26) ∧
 IfB x26
 (∃ x28 : Int, H23.cell ⟨s1b, 3, none⟩ = some (Value.int .u32 x28) ∧
 Za H23 ⟨back4b, 2, none⟩ (Value.int .u32 x28) fun H24 =>
 Zpt x2b back4b H24 R)
 (∃ x11 : Int, H23.cell ⟨back4b, 4, none⟩ = some (Value.int .i64 x11) ∧
 Za H23 ⟨back4b, 4, none⟩ (Value.int .i64 (Zdw .i64 x11 16)) fun H35 =>
 ∃ bs : List Nat, (∀ b ∈ bs, ∃ o, H35 b = some o) ∧
 s1b ∈ bs ∧ ∃ x15 : Int, H35.cell ⟨s1b, 2, none⟩ = some (Value.int .u32 x15) ∧
 ∃ x16c0 : Int, H35.cell ⟨s1b, 0, none⟩ = some (Value.int .i64 x16c0) ∧ ∃ x16c1 : Int, H35.cell ⟨s1b, 1, none⟩ = some (Value.int .i64 x16c1) ∧ ∃ x16c2 : Int, H35.cell ⟨s1b, 2, none⟩ = some (Value.int .u32 x16c2) ∧ ∃ x16c3 : Int, H35.cell ⟨s1b, 3, none⟩ = some (Value.int .u32 x16c3) ∧ ∃ x16c4 : Int, H35.cell ⟨s1b, 4, none⟩ = some (Value.int .i64 x16c4) ∧ ∃ x16c5 : Int, H35.cell ⟨s1b, 5, none⟩ = some (Value.int .i64 x16c5) ∧ ∃ x16c6 : Int, H35.cell ⟨s1b, 6, none⟩ = some (Value.int .i64 x16c6) ∧ ∃ x16c7 : Int, H35.cell ⟨s1b, 7, none⟩ = some (Value.int .i64 x16c7) ∧ ∃ (x16c8a : Option Addr) (x16c8n x16c8c : Nat), H35.cell ⟨s1b, 8, none⟩ = some (Value.slice x16c8a x16c8n x16c8c) ∧ FnW Tryz.prog Zhx ⟨[(Value.agg ⟨[(Value.int .i64 x16c0), (Value.int .i64 x16c1), (Value.int .u32 x16c2), (Value.int .u32 x16c3), (Value.int .i64 x16c4), (Value.int .i64 x16c5), (Value.int .i64 x16c6), (Value.int .i64 x16c7), (Value.slice x16c8a x16c8n x16c8c)]⟩)]⟩ H35 fun x17v H36 =>
 ∃ x17 : Int, x17v = (Value.int .i64 x17) ∧
 Ze bs H35 H36 ∧ FnW Tryz.prog Zcv ⟨[(Value.int .u32 x15), (Value.int .i64 x17)]⟩ H36 fun x18v H37 =>
 ∃ x18 : Int, x18v = (Value.int .u32 x18) ∧
 Za H37 ⟨back4b, 3, none⟩ (Value.int .u32 x18) fun H38 =>
 Zpt x2b back4b H38 R))
theorem Zbpw (s0c0 : Int) (s0c1 : Int) (s0c2 : Int) (s0c3 : Int) (s0c4 : Int) (s0c5 : Int) (s0c6 : Int) (s0c7 : Int) (s0c8a : Option Addr) (s0c8n : Nat) (s0c8c : Nat) (H : Heap) (R : Value -> Heap -> Prop) : Zwi s0c0 s0c1 s0c2 s0c3 s0c4 s0c5 s0c6 s0c7 s0c8a s0c8n s0c8c H R = Zc Tryz.prog Zbmj (Zb Tryz.f90) (env0 [(Value.agg ⟨[(Value.int .i64 s0c0), (Value.int .i64 s0c1), (Value.int .u32 s0c2), (Value.int .u32 s0c3), (Value.int .i64 s0c4), (Value.int .i64 s0c5), (Value.int .i64 s0c6), (Value.int .i64 s0c7), (Value.slice s0c8a s0c8n s0c8c)]⟩)]) H (RetW Tryz.prog Tryz.f90.results.toList R) := by kernel_rfl
theorem Zcei (s0c0 : Int) (s0c1 : Int) (s0c2 : Int) (s0c3 : Int) (s0c4 : Int) (s0c5 : Int) (s0c6 : Int) (s0c7 : Int) (s0c8a : Option Addr) (s0c8n : Nat) (s0c8c : Nat) {H : Heap} {R : Value -> Heap -> Prop} (h : Zwi s0c0 s0c1 s0c2 s0c3 s0c4 s0c5 s0c6 s0c7 s0c8a s0c8n s0c8c H fun v H1 => ∀ H2, Shut H H1 H2 -> R v H2) : FnW Tryz.prog Zkp ⟨[(Value.agg ⟨[(Value.int .i64 s0c0), (Value.int .i64 s0c1), (Value.int .u32 s0c2), (Value.int .u32 s0c3), (Value.int .i64 s0c4), (Value.int .i64 s0c5), (Value.int .i64 s0c6), (Value.int .i64 s0c7), (Value.slice s0c8a s0c8n s0c8c)]⟩)]⟩ H R := FnW.of_code Zcdo (by kernel_rfl) (Eq.mp (Zbpw s0c0 s0c1 s0c2 s0c3 s0c4 s0c5 s0c6 s0c7 s0c8a s0c8n s0c8c H _) h)
def Zbev : Plan := ⟨[], [], [], []⟩
theorem Zcco : Known Tryz.prog Zne Tryz.f91 Zbev (Zb Tryz.f91) := by refine ⟨Tryz.func91, ?_, ?_, ?_, ?_, ?_⟩ <;> kernel_rfl
def Zim (now0 : Int) (first2 : Int) (s4b : Nat) (x45 : Bool) (H5 : Heap) (R : Value -> Heap -> Prop) : Prop :=
 IfB x45
 (R (Value.tuple ⟨[(Value.pointer none), (Value.slice none 0 0), (Value.int .i64 2)]⟩) H5)
 (∃ x48 : Int, H5.cell ⟨s4b, 1, none⟩ = some (Value.int .i64 x48) ∧
 ∃ x50 : Int, H5.cell ⟨s4b, 0, none⟩ = some (Value.int .i64 x50) ∧
 FnW Tryz.prog Zml ⟨[(Value.int .i64 now0), (Value.int .i64 x48), (Value.int .i64 x50), (Value.int .u32 first2)]⟩ H5 fun x52v H6 =>
 ∃ x52 : Option Addr, x52v = (Value.pointer x52) ∧
 NilP x52 fun x54p =>
 Za H6 x54p (Value.int .i64 2) fun H7 =>
 ∃ x57c0 : Int, H7.cell ⟨s4b, 0, none⟩ = some (Value.int .i64 x57c0) ∧ ∃ x57c1 : Int, H7.cell ⟨s4b, 1, none⟩ = some (Value.int .i64 x57c1) ∧ ∃ x57c2 : Int, H7.cell ⟨s4b, 2, none⟩ = some (Value.int .u32 x57c2) ∧ ∃ x57c3 : Int, H7.cell ⟨s4b, 3, none⟩ = some (Value.int .u32 x57c3) ∧ ∃ x57c4 : Int, H7.cell ⟨s4b, 4, none⟩ = some (Value.int .i64 x57c4) ∧ ∃ x57c5 : Int, H7.cell ⟨s4b, 5, none⟩ = some (Value.int .i64 x57c5) ∧ ∃ x57c6 : Int, H7.cell ⟨s4b, 6, none⟩ = some (Value.int .i64 x57c6) ∧ ∃ x57c7 : Int, H7.cell ⟨s4b, 7, none⟩ = some (Value.int .i64 x57c7) ∧ ∃ (x57c8a : Option Addr) (x57c8n x57c8c : Nat), H7.cell ⟨s4b, 8, none⟩ = some (Value.slice x57c8a x57c8n x57c8c) ∧ FnW Tryz.prog Zjl ⟨[(Value.pointer x52), (Value.agg ⟨[(Value.int .i64 x57c0), (Value.int .i64 x57c1), (Value.int .u32 x57c2), (Value.int .u32 x57c3), (Value.int .i64 x57c4), (Value.int .i64 x57c5), (Value.int .i64 x57c6), (Value.int .i64 x57c7), (Value.slice x57c8a x57c8n x57c8c)]⟩)]⟩ H7 fun x58v H8 =>
 x58v = (Value.tuple ⟨[]⟩) ∧
 FnW Tryz.prog Zje ⟨[(Value.pointer x52)]⟩ H8 fun x60v H9 =>
 x60v = (Value.tuple ⟨[]⟩) ∧
 FnW Tryz.prog Zfd ⟨[(Value.pointer x52)]⟩ H9 fun x63v H10 =>
 ∃ (x63a : Option Addr) (x63n x63c : Nat), x63v = (Value.slice x63a x63n x63c) ∧
 R (Value.tuple ⟨[(Value.pointer x52), (Value.slice x63a x63n x63c), (Value.int .i64 0)]⟩) H10)
def Zsr (now0 : Int) (first2 : Int) (s4b : Nat) (odd9 : Bool) (H3 : Heap) (R : Value -> Heap -> Prop) : Prop :=
 ∃ x24c0 : Int, H3.cell ⟨s4b, 0, none⟩ = some (Value.int .i64 x24c0) ∧ ∃ x24c1 : Int, H3.cell ⟨s4b, 1, none⟩ = some (Value.int .i64 x24c1) ∧ ∃ x24c2 : Int, H3.cell ⟨s4b, 2, none⟩ = some (Value.int .u32 x24c2) ∧ ∃ x24c3 : Int, H3.cell ⟨s4b, 3, none⟩ = some (Value.int .u32 x24c3) ∧ ∃ x24c4 : Int, H3.cell ⟨s4b, 4, none⟩ = some (Value.int .i64 x24c4) ∧ ∃ x24c5 : Int, H3.cell ⟨s4b, 5, none⟩ = some (Value.int .i64 x24c5) ∧ ∃ x24c6 : Int, H3.cell ⟨s4b, 6, none⟩ = some (Value.int .i64 x24c6) ∧ ∃ x24c7 : Int, H3.cell ⟨s4b, 7, none⟩ = some (Value.int .i64 x24c7) ∧ ∃ (x24c8a : Option Addr) (x24c8n x24c8c : Nat), H3.cell ⟨s4b, 8, none⟩ = some (Value.slice x24c8a x24c8n x24c8c) ∧ FnW Tryz.prog Zko ⟨[(Value.agg ⟨[(Value.int .i64 x24c0), (Value.int .i64 x24c1), (Value.int .u32 x24c2), (Value.int .u32 x24c3), (Value.int .i64 x24c4), (Value.int .i64 x24c5), (Value.int .i64 x24c6), (Value.int .i64 x24c7), (Value.slice x24c8a x24c8n x24c8c)]⟩)]⟩ H3 fun x25v H4 =>
 ∃ x25 : Bool, x25v = (Value.bool x25) ∧
 IfB (!x25)
 (Zim now0 first2 s4b true H4 R)
 (∃ x29 : Int, H4.cell ⟨s4b, 0, none⟩ = some (Value.int .i64 x29) ∧
 FnW Tryz.prog Zhd ⟨[(Value.int .i64 x29)]⟩ H4 fun x30v H11 =>
 ∃ x30 : Bool, x30v = (Value.bool x30) ∧
 IfB (!x30)
 (Zim now0 first2 s4b true H11 R)
 (∃ x35 : Int, H11.cell ⟨s4b, 1, none⟩ = some (Value.int .i64 x35) ∧
 FnW Tryz.prog Zhd ⟨[(Value.int .i64 x35)]⟩ H11 fun x36v H12 =>
 ∃ x36 : Bool, x36v = (Value.bool x36) ∧
 IfB (!x36)
 (Zim now0 first2 s4b true H12 R)
 (IfB (decide ((now0 : Int) < 0))
 (Zim now0 first2 s4b true H12 R)
 (Zim now0 first2 s4b odd9 H12 R))))
def Zya (now0 : Int) (s1c0 : Int) (s1c1 : Int) (s1c2 : Int) (s1c3 : Int) (s1c4 : Int) (s1c5 : Int) (s1c6 : Int) (s1c7 : Int) (s1c8a : Option Addr) (s1c8n : Nat) (s1c8c : Nat) (first2 : Int) (H : Heap) (R : Value -> Heap -> Prop) : Prop :=
 NewW H (Obj.cells ⟨[(Value.int .i64 s1c0), (Value.int .i64 s1c1), (Value.int .u32 s1c2), (Value.int .u32 s1c3), (Value.int .i64 s1c4), (Value.int .i64 s1c5), (Value.int .i64 s1c6), (Value.int .i64 s1c7), (Value.slice s1c8a s1c8n s1c8c)]⟩ Zl) fun s4b H1 =>
 ∃ x11c0 : Int, H1.cell ⟨s4b, 0, none⟩ = some (Value.int .i64 x11c0) ∧ ∃ x11c1 : Int, H1.cell ⟨s4b, 1, none⟩ = some (Value.int .i64 x11c1) ∧ ∃ x11c2 : Int, H1.cell ⟨s4b, 2, none⟩ = some (Value.int .u32 x11c2) ∧ ∃ x11c3 : Int, H1.cell ⟨s4b, 3, none⟩ = some (Value.int .u32 x11c3) ∧ ∃ x11c4 : Int, H1.cell ⟨s4b, 4, none⟩ = some (Value.int .i64 x11c4) ∧ ∃ x11c5 : Int, H1.cell ⟨s4b, 5, none⟩ = some (Value.int .i64 x11c5) ∧ ∃ x11c6 : Int, H1.cell ⟨s4b, 6, none⟩ = some (Value.int .i64 x11c6) ∧ ∃ x11c7 : Int, H1.cell ⟨s4b, 7, none⟩ = some (Value.int .i64 x11c7) ∧ ∃ (x11c8a : Option Addr) (x11c8n x11c8c : Nat), H1.cell ⟨s4b, 8, none⟩ = some (Value.slice x11c8a x11c8n x11c8c) ∧ FnW Tryz.prog Zby ⟨[(Value.agg ⟨[(Value.int .i64 x11c0), (Value.int .i64 x11c1), (Value.int .u32 x11c2), (Value.int .u32 x11c3), (Value.int .i64 x11c4), (Value.int .i64 x11c5), (Value.int .i64 x11c6), (Value.int .i64 x11c7), (Value.slice x11c8a x11c8n x11c8c)]⟩), (Value.int .i64 2)]⟩ H1 fun x12v H2 =>
 ∃ x12 : Bool, x12v = (Value.bool x12) ∧
 IfB (!x12)
 (Zsr now0 first2 s4b true H2 R)
 (∃ x15c0 : Int, H2.cell ⟨s4b, 0, none⟩ = some (Value.int .i64 x15c0) ∧ ∃ x15c1 : Int, H2.cell ⟨s4b, 1, none⟩ = some (Value.int .i64 x15c1) ∧ ∃ x15c2 : Int, H2.cell ⟨s4b, 2, none⟩ = some (Value.int .u32 x15c2) ∧ ∃ x15c3 : Int, H2.cell ⟨s4b, 3, none⟩ = some (Value.int .u32 x15c3) ∧ ∃ x15c4 : Int, H2.cell ⟨s4b, 4, none⟩ = some (Value.int .i64 x15c4) ∧ ∃ x15c5 : Int, H2.cell ⟨s4b, 5, none⟩ = some (Value.int .i64 x15c5) ∧ ∃ x15c6 : Int, H2.cell ⟨s4b, 6, none⟩ = some (Value.int .i64 x15c6) ∧ ∃ x15c7 : Int, H2.cell ⟨s4b, 7, none⟩ = some (Value.int .i64 x15c7) ∧ ∃ (x15c8a : Option Addr) (x15c8n x15c8c : Nat), H2.cell ⟨s4b, 8, none⟩ = some (Value.slice x15c8a x15c8n x15c8c) ∧ FnW Tryz.prog Zby ⟨[(Value.agg ⟨[(Value.int .i64 x15c0), (Value.int .i64 x15c1), (Value.int .u32 x15c2), (Value.int .u32 x15c3), (Value.int .i64 x15c4), (Value.int .i64 x15c5), (Value.int .i64 x15c6), (Value.int .i64 x15c7), (Value.slice x15c8a x15c8n x15c8c)]⟩), (Value.int .i64 21)]⟩ H2 fun x16v H13 =>
 ∃ x16 : Bool, x16v = (Value.bool x16) ∧
 IfB x16
 (Zsr now0 first2 s4b true H13 R)
 (∃ (x20a : Option Addr) (x20n x20c : Nat), H13.cell ⟨s4b, 8, none⟩ = some (Value.slice x20a x20n x20c) ∧
 Zsr now0 first2 s4b (decide (((x20n : Int) : Int) > 0)) H13 R))
theorem Zbuf (now0 : Int) (s1c0 : Int) (s1c1 : Int) (s1c2 : Int) (s1c3 : Int) (s1c4 : Int) (s1c5 : Int) (s1c6 : Int) (s1c7 : Int) (s1c8a : Option Addr) (s1c8n : Nat) (s1c8c : Nat) (first2 : Int) (H : Heap) (R : Value -> Heap -> Prop) : Zya now0 s1c0 s1c1 s1c2 s1c3 s1c4 s1c5 s1c6 s1c7 s1c8a s1c8n s1c8c first2 H R = Zc Tryz.prog Zbev (Zb Tryz.f91) (env0 [(Value.int .i64 now0), (Value.agg ⟨[(Value.int .i64 s1c0), (Value.int .i64 s1c1), (Value.int .u32 s1c2), (Value.int .u32 s1c3), (Value.int .i64 s1c4), (Value.int .i64 s1c5), (Value.int .i64 s1c6), (Value.int .i64 s1c7), (Value.slice s1c8a s1c8n s1c8c)]⟩), (Value.int .u32 first2)]) H (RetW Tryz.prog Tryz.f91.results.toList R) := by kernel_rfl
theorem Zcfg (now0 : Int) (s1c0 : Int) (s1c1 : Int) (s1c2 : Int) (s1c3 : Int) (s1c4 : Int) (s1c5 : Int) (s1c6 : Int) (s1c7 : Int) (s1c8a : Option Addr) (s1c8n : Nat) (s1c8c : Nat) (first2 : Int) {H : Heap} {R : Value -> Heap -> Prop} (h : Zya now0 s1c0 s1c1 s1c2 s1c3 s1c4 s1c5 s1c6 s1c7 s1c8a s1c8n s1c8c first2 H fun v H1 => ∀ H2, Shut H H1 H2 -> R v H2) : FnW Tryz.prog Zne ⟨[(Value.int .i64 now0), (Value.agg ⟨[(Value.int .i64 s1c0), (Value.int .i64 s1c1), (Value.int .u32 s1c2), (Value.int .u32 s1c3), (Value.int .i64 s1c4), (Value.int .i64 s1c5), (Value.int .i64 s1c6), (Value.int .i64 s1c7), (Value.slice s1c8a s1c8n s1c8c)]⟩), (Value.int .u32 first2)]⟩ H R := FnW.of_code Zcco (by kernel_rfl) (Eq.mp (Zbuf now0 s1c0 s1c1 s1c2 s1c3 s1c4 s1c5 s1c6 s1c7 s1c8a s1c8n s1c8c first2 H _) h)
def Zbkn : Plan := ⟨[], [], [], []⟩
theorem Zcas : Known Tryz.prog Zjy Tryz.f101 Zbkn (Zb Tryz.f101) := by refine ⟨Tryz.func101, ?_, ?_, ?_, ?_, ?_⟩ <;> kernel_rfl
def Zbbg (c0b : Nat) (H : Heap) (R : Value -> Heap -> Prop) : Prop :=
 ∃ x9 : Option Addr, H.cell ⟨c0b, 4, none⟩ = some (Value.pointer x9) ∧
 R (Value.bool (!x9.isNone)) H
theorem Zcdi (c0b : Nat) (H : Heap) (R : Value -> Heap -> Prop) : Zbbg c0b H R = Zc Tryz.prog Zbkn (Zb Tryz.f101) (env0 [(Value.pointer (some ⟨c0b, 0, none⟩))]) H (RetW Tryz.prog Tryz.f101.results.toList R) := by kernel_rfl
theorem Zcfa (c0b : Nat) {H : Heap} {R : Value -> Heap -> Prop} (h : Zbbg c0b H fun v H1 => ∀ H2, Shut H H1 H2 -> R v H2) : FnW Tryz.prog Zjy ⟨[(Value.pointer (some ⟨c0b, 0, none⟩))]⟩ H R := FnW.of_code Zcas (by kernel_rfl) (Eq.mp (Zcdi c0b H _) h)
def Zbbx : Plan := ⟨[], [], [], []⟩
theorem Zbrs : Known Tryz.prog Zqf Tryz.f102 Zbbx (Zb Tryz.f102) := by refine ⟨Tryz.func102, ?_, ?_, ?_, ?_, ?_⟩ <;> kernel_rfl
def Zyg (o0b : Nat) (b1a : Option Addr) (b1n : Nat) (b1c : Nat) (H : Heap) (R : Value -> Heap -> Prop) : Prop :=
 FnW Tryz.prog Zec ⟨[(Value.pointer (some ⟨o0b, 0, none⟩))]⟩ H fun x7v H1 =>
 ∃ x7 : Bool, x7v = (Value.bool x7) ∧
 IfB (!x7)
 (R (Value.int .i64 0) H1)
 (∃ x14 : Int, H1.cell ⟨o0b, 7, none⟩ = some (Value.int .i64 x14) ∧
 ∃ (x18a : Option Addr) (x18n x18c : Nat), H1.cell ⟨o0b, 5, none⟩ = some (Value.slice x18a x18n x18c) ∧
 ∃ (x26a : Option Addr) (x26n x26c : Nat), H1.cell ⟨o0b, 5, none⟩ = some (Value.slice x26a x26n x26c) ∧
 InC (min (b1n : Int) (IntKind.wrap .i64 (x14 - (x18n : Int)))) b1c fun x29h =>
 NewW H1 (Obj.cells ⟨[(Value.slice x26a x26n x26c), (Value.slice b1a x29h b1c)]⟩ Zi) fun x30b H2 =>
 FnW Tryz.prog Zoo ⟨[(Value.slice (some ⟨x30b, 0, none⟩) 2 2)]⟩ H2 fun x31v H3 =>
 ∃ (x31a : Option Addr) (x31n x31c : Nat), x31v = (Value.slice x31a x31n x31c) ∧
 Za H3 ⟨o0b, 5, none⟩ (Value.slice x31a x31n x31c) fun H4 =>
 R (Value.int .i64 (min (b1n : Int) (IntKind.wrap .i64 (x14 - (x18n : Int))))) H4)
theorem Zchz (o0b : Nat) (b1a : Option Addr) (b1n : Nat) (b1c : Nat) (H : Heap) (R : Value -> Heap -> Prop) : Zyg o0b b1a b1n b1c H R = Zc Tryz.prog Zbbx (Zb Tryz.f102) (env0 [(Value.pointer (some ⟨o0b, 0, none⟩)), (Value.slice b1a b1n b1c)]) H (RetW Tryz.prog Tryz.f102.results.toList R) := by kernel_rfl
theorem Zbvo (o0b : Nat) (b1a : Option Addr) (b1n : Nat) (b1c : Nat) {H : Heap} {R : Value -> Heap -> Prop} (h : Zyg o0b b1a b1n b1c H fun v H1 => ∀ H2, Shut H H1 H2 -> R v H2) : FnW Tryz.prog Zqf ⟨[(Value.pointer (some ⟨o0b, 0, none⟩)), (Value.slice b1a b1n b1c)]⟩ H R := FnW.of_code Zbrs (by kernel_rfl) (Eq.mp (Zchz o0b b1a b1n b1c H _) h)
def Zbkm : Plan := ⟨[(9, [0, 1, 2, 3, 4, 5, 6, 7, 8, 9, 10, 11, 12, 13, 14, 15, 16, 17, 19, 20, 21, 22, 18, 23, 24, 25], [56])], [(6, [], [], [0])], [], []⟩
theorem Zbyn : Known Tryz.prog Zhc Tryz.f103 Zbkm (Zb Tryz.f103) := by refine ⟨Tryz.func103, ?_, ?_, ?_, ?_, ?_⟩ <;> kernel_rfl
def Zjf (c0b : Nat) (next6 : (Unit) -> Heap -> Prop) (x59 : Bool) (H7 : Heap) (R : Value -> Heap -> Prop) : Prop :=
 IfB x59
 (FnW Tryz.prog Zpl ⟨[(Value.pointer (some ⟨c0b, 0, none⟩))]⟩ H7 fun x61v H8 =>
 x61v = (Value.tuple ⟨[]⟩) ∧
 Za H8 ⟨c0b, 7, none⟩ (Value.bool true) fun H9 =>
 R (Value.tuple ⟨[]⟩) H9)
 (R (Value.tuple ⟨[]⟩) H7)
def Zbdw (c0b : Nat) (H3 : Heap) (next6 : (Unit) -> Heap -> Prop) (R : Value -> Heap -> Prop) : Prop :=
 ∃ x19 : Option Addr, H3.cell ⟨c0b, 4, none⟩ = some (Value.pointer x19) ∧
 ∃ x23 : Int, H3.cell ⟨c0b, 10, none⟩ = some (Value.int .i64 x23) ∧
 FnW Tryz.prog Zpu ⟨[(Value.pointer x19), (Value.int .i64 x23)]⟩ H3 fun x24v H4 =>
 ∃ x24r0 : Int, ∃ (x24r1a : Option Addr) (x24r1n x24r1c : Nat), ∃ x24r2 : Int, x24v = (Value.tuple ⟨[(Value.int .u32 x24r0), (Value.slice x24r1a x24r1n x24r1c), (Value.int .i64 x24r2)]⟩) ∧
 IfB ((x24r2 : Int) != 0)
 (∃ bs : List Nat, (∀ b ∈ bs, ∃ o, H4 b = some o) ∧
 ∃ x38 : Bool, H4.cell ⟨c0b, 6, none⟩ = some (Value.bool x38) ∧
 IfB x38
 (∃ x44 : Bool, H4.cell ⟨c0b, 7, none⟩ = some (Value.bool x44) ∧
 IfB (!x44)
 (∃ x51 : Option Addr, H4.cell ⟨c0b, 4, none⟩ = some (Value.pointer x51) ∧
 c0b ∈ bs ∧ ∃ x56 : Option Addr, H4.cell ⟨c0b, 4, none⟩ = some (Value.pointer x56) ∧
 FnW Tryz.prog Zlv ⟨[(Value.pointer x51)]⟩ H4 fun x52v H5 =>
 ∃ x52 : Int, x52v = (Value.int .i64 x52) ∧
 Ze bs H4 H5 ∧ FnW Tryz.prog Zll ⟨[(Value.pointer x56)]⟩ H5 fun x57v H6 =>
 ∃ x57 : Int, x57v = (Value.int .i64 x57) ∧
 Zjf c0b next6 ((x52 : Int) == x57) H6 R)
 (Zjf c0b next6 false H4 R))
 (Zjf c0b next6 false H4 R))
 (FnW Tryz.prog Zgg ⟨[(Value.pointer (some ⟨c0b, 0, none⟩)), (Value.int .u32 x24r0), (Value.int .i64 24), (Value.slice x24r1a x24r1n x24r1c)]⟩ H4 fun x33v H10 =>
 ∃ x33 : Option Addr, x33v = (Value.pointer x33) ∧
 next6 () H10)
def Zuk (c0b : Nat) (H2 : Heap) (R : Value -> Heap -> Prop) : Prop :=
 Zci (Unit) () H2 fun x H next => ∀ _g : Env, Zbdw c0b H next R
def Zja (c0b : Nat) (x9 : Bool) (H1 : Heap) (R : Value -> Heap -> Prop) : Prop :=
 IfB x9
 (Zuk c0b H1 R)
 (R (Value.tuple ⟨[]⟩) H1)
def Zve (c0b : Nat) (H : Heap) (R : Value -> Heap -> Prop) : Prop :=
 ∃ x8 : Int, H.cell ⟨c0b, 0, none⟩ = some (Value.int .i64 x8) ∧
 IfB ((x8 : Int) == 3)
 (Zja c0b ((x8 : Int) == 3) H R)
 (IfB ((x8 : Int) == 4)
 (Zja c0b ((x8 : Int) == 4) H R)
 (IfB ((x8 : Int) == 6)
 (Zja c0b ((x8 : Int) == 6) H R)
 (IfB ((x8 : Int) == 7)
 (Zja c0b ((x8 : Int) == 7) H R)
 (Zja c0b ((x8 : Int) == 8) H R))))
theorem Zbzz (c0b : Nat) (H : Heap) (R : Value -> Heap -> Prop) : Zve c0b H R = Zc Tryz.prog Zbkm (Zb Tryz.f103) (env0 [(Value.pointer (some ⟨c0b, 0, none⟩))]) H (RetW Tryz.prog Tryz.f103.results.toList R) := by kernel_rfl
theorem Zbnu (c0b : Nat) {H : Heap} {R : Value -> Heap -> Prop} (h : Zve c0b H fun v H1 => ∀ H2, Shut H H1 H2 -> R v H2) : FnW Tryz.prog Zhc ⟨[(Value.pointer (some ⟨c0b, 0, none⟩))]⟩ H R := FnW.of_code Zbyn (by kernel_rfl) (Eq.mp (Zbzz c0b H _) h)
def Zbla : Plan := ⟨[], [], [], []⟩
theorem Zciu : Known Tryz.prog Zga Tryz.f104 Zbla (Zb Tryz.f104) := by refine ⟨Tryz.func104, ?_, ?_, ?_, ?_, ?_⟩ <;> kernel_rfl
def Zvf (j0b : Nat) (H : Heap) (R : Value -> Heap -> Prop) : Prop :=
 FnW Tryz.prog Zdy ⟨[(Value.pointer (some ⟨j0b, 0, none⟩))]⟩ H fun x4v H1 =>
 ∃ x4 : Bool, x4v = (Value.bool x4) ∧
 IfB (!x4)
 (R (Value.int .i64 0) H1)
 (∃ (x9a : Option Addr) (x9n x9c : Nat), H1.cell ⟨j0b, 2, none⟩ = some (Value.slice x9a x9n x9c) ∧
 ∃ (x14a : Option Addr) (x14n x14c : Nat), H1.cell ⟨j0b, 5, none⟩ = some (Value.slice x14a x14n x14c) ∧
 R (Value.int .i64 (IntKind.wrap .i64 ((x9n : Int) - (x14n : Int)))) H1)
theorem Zcgf (j0b : Nat) (H : Heap) (R : Value -> Heap -> Prop) : Zvf j0b H R = Zc Tryz.prog Zbla (Zb Tryz.f104) (env0 [(Value.pointer (some ⟨j0b, 0, none⟩))]) H (RetW Tryz.prog Tryz.f104.results.toList R) := by kernel_rfl
theorem Zccz (j0b : Nat) {H : Heap} {R : Value -> Heap -> Prop} (h : Zvf j0b H fun v H1 => ∀ H2, Shut H H1 H2 -> R v H2) : FnW Tryz.prog Zga ⟨[(Value.pointer (some ⟨j0b, 0, none⟩))]⟩ H R := FnW.of_code Zciu (by kernel_rfl) (Eq.mp (Zcgf j0b H _) h)
def Zbgk : Plan := ⟨[], [], [], []⟩
theorem Zcek : Known Tryz.prog Zpy Tryz.f105 Zbgk (Zb Tryz.f105) := by refine ⟨Tryz.func105, ?_, ?_, ?_, ?_, ?_⟩ <;> kernel_rfl
def Zxv (j0b : Nat) (n1 : Int) (H : Heap) (R : Value -> Heap -> Prop) : Prop :=
 FnW Tryz.prog Zdy ⟨[(Value.pointer (some ⟨j0b, 0, none⟩))]⟩ H fun x9v H1 =>
 ∃ x9 : Bool, x9v = (Value.bool x9) ∧
 IfB (!x9)
 (R (Value.tuple ⟨[(Value.slice none 0 0), (Value.int .i64 1)]⟩) H1)
 (IfB (decide ((n1 : Int) < 0))
 (R (Value.tuple ⟨[(Value.slice none 0 0), (Value.int .i64 2)]⟩) H1)
 (∃ (x18a : Option Addr) (x18n x18c : Nat), H1.cell ⟨j0b, 5, none⟩ = some (Value.slice x18a x18n x18c) ∧
 ∃ (x24a : Option Addr) (x24n x24c : Nat), H1.cell ⟨j0b, 5, none⟩ = some (Value.slice x24a x24n x24c) ∧
 InC (min n1 (x18n : Int)) x24c fun x26h =>
 FnW Tryz.prog Zhj ⟨[(Value.slice x24a x26h x24c)]⟩ H1 fun x27v H2 =>
 ∃ (x27a : Option Addr) (x27n x27c : Nat), x27v = (Value.slice x27a x27n x27c) ∧
 ∃ (x32a : Option Addr) (x32n x32c : Nat), H2.cell ⟨j0b, 5, none⟩ = some (Value.slice x32a x32n x32c) ∧
 InC (min n1 (x18n : Int)) x32n fun x34l =>
 FnW Tryz.prog Zhj ⟨[(Value.slice (if x32c = x34l then x32a else Option.map (fun a => Addr.add a (x34l * 1)) x32a) (x32n - x34l) (x32c - x34l))]⟩ H2 fun x35v H3 =>
 ∃ (x35a : Option Addr) (x35n x35c : Nat), x35v = (Value.slice x35a x35n x35c) ∧
 Za H3 ⟨j0b, 5, none⟩ (Value.slice x35a x35n x35c) fun H4 =>
 R (Value.tuple ⟨[(Value.slice x27a x27n x27c), (Value.int .i64 0)]⟩) H4))
theorem Zcec (j0b : Nat) (n1 : Int) (H : Heap) (R : Value -> Heap -> Prop) : Zxv j0b n1 H R = Zc Tryz.prog Zbgk (Zb Tryz.f105) (env0 [(Value.pointer (some ⟨j0b, 0, none⟩)), (Value.int .i64 n1)]) H (RetW Tryz.prog Tryz.f105.results.toList R) := by kernel_rfl
theorem Zbny (j0b : Nat) (n1 : Int) {H : Heap} {R : Value -> Heap -> Prop} (h : Zxv j0b n1 H fun v H1 => ∀ H2, Shut H H1 H2 -> R v H2) : FnW Tryz.prog Zpy ⟨[(Value.pointer (some ⟨j0b, 0, none⟩)), (Value.int .i64 n1)]⟩ H R := FnW.of_code Zcek (by kernel_rfl) (Eq.mp (Zcec j0b n1 H _) h)
def Zbku : Plan := ⟨[], [], [], []⟩
theorem Zbuc : Known Tryz.prog Zju Tryz.f106 Zbku (Zb Tryz.f106) := by refine ⟨Tryz.func106, ?_, ?_, ?_, ?_, ?_⟩ <;> kernel_rfl
def Zvw (c0b : Nat) (H : Heap) (R : Value -> Heap -> Prop) : Prop :=
 FnW Tryz.prog Zlt ⟨[(Value.pointer (some ⟨c0b, 0, none⟩))]⟩ H fun x4v H1 =>
 ∃ x4 : Int, x4v = (Value.int .u32 x4) ∧
 FnW Tryz.prog Zgg ⟨[(Value.pointer (some ⟨c0b, 0, none⟩)), (Value.int .u32 x4), (Value.int .i64 16), (Value.slice none 0 0)]⟩ H1 fun x5v H2 =>
 ∃ x5 : Option Addr, x5v = (Value.pointer x5) ∧
 R (Value.tuple ⟨[]⟩) H2
theorem Zbvl (c0b : Nat) (H : Heap) (R : Value -> Heap -> Prop) : Zvw c0b H R = Zc Tryz.prog Zbku (Zb Tryz.f106) (env0 [(Value.pointer (some ⟨c0b, 0, none⟩))]) H (RetW Tryz.prog Tryz.f106.results.toList R) := by kernel_rfl
theorem Zbvh (c0b : Nat) {H : Heap} {R : Value -> Heap -> Prop} (h : Zvw c0b H fun v H1 => ∀ H2, Shut H H1 H2 -> R v H2) : FnW Tryz.prog Zju ⟨[(Value.pointer (some ⟨c0b, 0, none⟩))]⟩ H R := FnW.of_code Zbuc (by kernel_rfl) (Eq.mp (Zbvl c0b H _) h)
def Zbhf : Plan := ⟨[], [(3, [5, 12], [.int .u32, .int .i64], [1, 11])], [], []⟩
theorem Zcfc : Known Tryz.prog Zlg Tryz.f108 Zbhf (Zb Tryz.f108) := by refine ⟨Tryz.func108, ?_, ?_, ?_, ?_, ?_⟩ <;> kernel_rfl
def Zvl (b1a : Option Addr) (b1n : Nat) (b1c : Nat) (n5 : Int) (x12 : Int) (H2 : Heap) (next3 : (Int × Int × Unit) -> Heap -> Prop) (R : Value -> Heap -> Prop) : Prop :=
 IfB (decide ((x12 : Int) < (IntKind.wrap .i64 (Int.tdiv (b1n : Int) 2))))
 (NilP b1a fun x19q =>
 InB (IntKind.wrap .i64 (2 * x12)) b1n fun x19i =>
 elemAt x19q x19i 1 fun x19p =>
 ∃ x20 : Int, H2.cell x19p = some (Value.int .u8 x20) ∧
 (0 : Int) <= 8 ∧
 NilP b1a fun x28q =>
 InB (IntKind.wrap .i64 ((IntKind.wrap .i64 (2 * x12)) + 1)) b1n fun x28i =>
 elemAt x28q x28i 1 fun x28p =>
 ∃ x29 : Int, H2.cell x28p = some (Value.int .u8 x29) ∧
 FnW Tryz.prog Zcr ⟨[(Value.int .u32 (IntKind.wrap .u32 ((IntKind.wrap .u32 (n5 + (IntKind.wrap .u32 ((IntKind.wrap .u32 x20) * 2 ^ (min (8 : Int).toNat (IntKind.bits .u32)))))) + (IntKind.wrap .u32 x29))))]⟩ H2 fun x32v H3 =>
 ∃ x32 : Int, x32v = (Value.int .u32 x32) ∧
 next3 (x32, ((IntKind.wrap .i64 (x12 + 1)), ())) H3)
 ((2 : Int) ≠ 0 ∧
 IfB (((Int.tmod (b1n : Int) 2) : Int) == 1)
 (NilP b1a fun x43q =>
 InB (IntKind.wrap .i64 ((b1n : Int) - 1)) b1n fun x43i =>
 elemAt x43q x43i 1 fun x43p =>
 ∃ x44 : Int, H2.cell x43p = some (Value.int .u8 x44) ∧
 (0 : Int) <= 8 ∧
 FnW Tryz.prog Zcr ⟨[(Value.int .u32 (IntKind.wrap .u32 (n5 + (IntKind.wrap .u32 ((IntKind.wrap .u32 x44) * 2 ^ (min (8 : Int).toNat (IntKind.bits .u32)))))))]⟩ H2 fun x48v H4 =>
 ∃ x48 : Int, x48v = (Value.int .u32 x48) ∧
 R (Value.int .u32 x48) H4)
 (R (Value.int .u32 n5) H2))
def Zqe (partial0 : Int) (b1a : Option Addr) (b1n : Nat) (b1c : Nat) (H : Heap) (R : Value -> Heap -> Prop) : Prop :=
 FnW Tryz.prog Zcr ⟨[(Value.int .u32 partial0)]⟩ H fun x8v H1 =>
 ∃ x8 : Int, x8v = (Value.int .u32 x8) ∧
 (2 : Int) ≠ 0 ∧
 Zci (Int × Int × Unit) (x8, (0, ())) H1 fun x H next => ∀ _g : Env, Zvl b1a b1n b1c x.1 x.2.1 H next R
theorem Zcan (partial0 : Int) (b1a : Option Addr) (b1n : Nat) (b1c : Nat) (H : Heap) (R : Value -> Heap -> Prop) : Zqe partial0 b1a b1n b1c H R = Zc Tryz.prog Zbhf (Zb Tryz.f108) (env0 [(Value.int .u32 partial0), (Value.slice b1a b1n b1c)]) H (RetW Tryz.prog Tryz.f108.results.toList R) := by kernel_rfl
theorem Zbly (partial0 : Int) (b1a : Option Addr) (b1n : Nat) (b1c : Nat) {H : Heap} {R : Value -> Heap -> Prop} (h : Zqe partial0 b1a b1n b1c H fun v H1 => ∀ H2, Shut H H1 H2 -> R v H2) : FnW Tryz.prog Zlg ⟨[(Value.int .u32 partial0), (Value.slice b1a b1n b1c)]⟩ H R := FnW.of_code Zcfc (by kernel_rfl) (Eq.mp (Zcan partial0 b1a b1n b1c H _) h)
def Zbik : Plan := ⟨[], [], [(4, 7)], []⟩
theorem Zbwj : Known Tryz.prog Zmm Tryz.f109 Zbik (Zb Tryz.f109) := by refine ⟨Tryz.func109, ?_, ?_, ?_, ?_, ?_⟩ <;> kernel_rfl
def Zph (from0 : Int) (to1 : Int) (kind2 : Int) (n3 : Int) (H : Heap) (R : Value -> Heap -> Prop) : Prop :=
 (0 : Int) <= 16 ∧
 (0 : Int) <= 16 ∧
 NewW H (Obj.cells ⟨[(Value.int .u32 0), (Value.int .u32 0), (Value.int .u32 0), (Value.int .u32 0), (Value.int .u32 0), (Value.int .u32 0)]⟩ Zla) fun l9b H1 =>
 Za H1 ⟨l9b, 0, none⟩ (Value.int .u32 (Int.fdiv from0 (2 ^ (min (16 : Int).toNat (IntKind.bits .u32))))) fun H2 =>
 Za H2 ⟨l9b, 1, none⟩ (Value.int .u32 (Zz .u32 from0 65535)) fun H3 =>
 Za H3 ⟨l9b, 2, none⟩ (Value.int .u32 (Int.fdiv to1 (2 ^ (min (16 : Int).toNat (IntKind.bits .u32))))) fun H4 =>
 Za H4 ⟨l9b, 3, none⟩ (Value.int .u32 (Zz .u32 to1 65535)) fun H5 =>
 Za H5 ⟨l9b, 4, none⟩ (Value.int .u32 (IntKind.wrap .u32 kind2)) fun H6 =>
 Za H6 ⟨l9b, 5, none⟩ (Value.int .u32 (IntKind.wrap .u32 (Zz .i64 n3 65535))) fun H7 =>
 ∃ x27c0 : Int, H7.cell ⟨l9b, 0, none⟩ = some (Value.int .u32 x27c0) ∧ ∃ x27c1 : Int, H7.cell ⟨l9b, 1, none⟩ = some (Value.int .u32 x27c1) ∧ ∃ x27c2 : Int, H7.cell ⟨l9b, 2, none⟩ = some (Value.int .u32 x27c2) ∧ ∃ x27c3 : Int, H7.cell ⟨l9b, 3, none⟩ = some (Value.int .u32 x27c3) ∧ ∃ x27c4 : Int, H7.cell ⟨l9b, 4, none⟩ = some (Value.int .u32 x27c4) ∧ ∃ x27c5 : Int, H7.cell ⟨l9b, 5, none⟩ = some (Value.int .u32 x27c5) ∧ IfB (decide ((0 : Int) < 6))
 ((0 : Int) <= 0 ∧ (0 : Int) < 6 ∧
 FnW Tryz.prog Zcr ⟨[(Value.int .u32 (IntKind.wrap .u32 (0 + x27c0)))]⟩ H7 fun x34v H8 =>
 ∃ x34 : Int, x34v = (Value.int .u32 x34) ∧
 IfB (decide (((IntKind.wrap .i64 (0 + 1)) : Int) < 6))
 ((0 : Int) <= (IntKind.wrap .i64 (0 + 1)) ∧ ((IntKind.wrap .i64 (0 + 1)) : Int) < 6 ∧
 FnW Tryz.prog Zcr ⟨[(Value.int .u32 (IntKind.wrap .u32 (x34 + x27c1)))]⟩ H8 fun x34v_1 H9 =>
 ∃ x34_1 : Int, x34v_1 = (Value.int .u32 x34_1) ∧
 IfB (decide (((IntKind.wrap .i64 ((IntKind.wrap .i64 (0 + 1)) + 1)) : Int) < 6))
 ((0 : Int) <= (IntKind.wrap .i64 ((IntKind.wrap .i64 (0 + 1)) + 1)) ∧ ((IntKind.wrap .i64 ((IntKind.wrap .i64 (0 + 1)) + 1)) : Int) < 6 ∧
 FnW Tryz.prog Zcr ⟨[(Value.int .u32 (IntKind.wrap .u32 (x34_1 + x27c2)))]⟩ H9 fun x34v_2 H10 =>
 ∃ x34_2 : Int, x34v_2 = (Value.int .u32 x34_2) ∧
 IfB (decide (((IntKind.wrap .i64 ((IntKind.wrap .i64 ((IntKind.wrap .i64 (0 + 1)) + 1)) + 1)) : Int) < 6))
 ((0 : Int) <= (IntKind.wrap .i64 ((IntKind.wrap .i64 ((IntKind.wrap .i64 (0 + 1)) + 1)) + 1)) ∧ ((IntKind.wrap .i64 ((IntKind.wrap .i64 ((IntKind.wrap .i64 (0 + 1)) + 1)) + 1)) : Int) < 6 ∧
 FnW Tryz.prog Zcr ⟨[(Value.int .u32 (IntKind.wrap .u32 (x34_2 + x27c3)))]⟩ H10 fun x34v_3 H11 =>
 ∃ x34_3 : Int, x34v_3 = (Value.int .u32 x34_3) ∧
 IfB (decide (((IntKind.wrap .i64 ((IntKind.wrap .i64 ((IntKind.wrap .i64 ((IntKind.wrap .i64 (0 + 1)) + 1)) + 1)) + 1)) : Int) < 6))
 ((0 : Int) <= (IntKind.wrap .i64 ((IntKind.wrap .i64 ((IntKind.wrap .i64 ((IntKind.wrap .i64 (0 + 1)) + 1)) + 1)) + 1)) ∧ ((IntKind.wrap .i64 ((IntKind.wrap .i64 ((IntKind.wrap .i64 ((IntKind.wrap .i64 (0 + 1)) + 1)) + 1)) + 1)) : Int) < 6 ∧
 FnW Tryz.prog Zcr ⟨[(Value.int .u32 (IntKind.wrap .u32 (x34_3 + x27c4)))]⟩ H11 fun x34v_4 H12 =>
 ∃ x34_4 : Int, x34v_4 = (Value.int .u32 x34_4) ∧
 IfB (decide (((IntKind.wrap .i64 ((IntKind.wrap .i64 ((IntKind.wrap .i64 ((IntKind.wrap .i64 ((IntKind.wrap .i64 (0 + 1)) + 1)) + 1)) + 1)) + 1)) : Int) < 6))
 ((0 : Int) <= (IntKind.wrap .i64 ((IntKind.wrap .i64 ((IntKind.wrap .i64 ((IntKind.wrap .i64 ((IntKind.wrap .i64 (0 + 1)) + 1)) + 1)) + 1)) + 1)) ∧ ((IntKind.wrap .i64 ((IntKind.wrap .i64 ((IntKind.wrap .i64 ((IntKind.wrap .i64 ((IntKind.wrap .i64 (0 + 1)) + 1)) + 1)) + 1)) + 1)) : Int) < 6 ∧
 FnW Tryz.prog Zcr ⟨[(Value.int .u32 (IntKind.wrap .u32 (x34_4 + x27c5)))]⟩ H12 fun x34v_5 H13 =>
 ∃ x34_5 : Int, x34v_5 = (Value.int .u32 x34_5) ∧
 IfB (decide (((IntKind.wrap .i64 ((IntKind.wrap .i64 ((IntKind.wrap .i64 ((IntKind.wrap .i64 ((IntKind.wrap .i64 ((IntKind.wrap .i64 (0 + 1)) + 1)) + 1)) + 1)) + 1)) + 1)) : Int) < 6))
 ((0 : Int) <= (IntKind.wrap .i64 ((IntKind.wrap .i64 ((IntKind.wrap .i64 ((IntKind.wrap .i64 ((IntKind.wrap .i64 ((IntKind.wrap .i64 (0 + 1)) + 1)) + 1)) + 1)) + 1)) + 1)) ∧ ((IntKind.wrap .i64 ((IntKind.wrap .i64 ((IntKind.wrap .i64 ((IntKind.wrap .i64 ((IntKind.wrap .i64 ((IntKind.wrap .i64 (0 + 1)) + 1)) + 1)) + 1)) + 1)) + 1)) : Int) < 6 ∧
 False)
 (R (Value.int .u32 x34_5) H13))
 (R (Value.int .u32 x34_4) H12))
 (R (Value.int .u32 x34_3) H11))
 (R (Value.int .u32 x34_2) H10))
 (R (Value.int .u32 x34_1) H9))
 (R (Value.int .u32 x34) H8))
 (R (Value.int .u32 0) H7)
theorem Zbql (from0 : Int) (to1 : Int) (kind2 : Int) (n3 : Int) (H : Heap) (R : Value -> Heap -> Prop) : Zph from0 to1 kind2 n3 H R = Zc Tryz.prog Zbik (Zb Tryz.f109) (env0 [(Value.int .u32 from0), (Value.int .u32 to1), (Value.int .u8 kind2), (Value.int .i64 n3)]) H (RetW Tryz.prog Tryz.f109.results.toList R) := by kernel_rfl
theorem Zbbt (from0 : Int) (to1 : Int) (kind2 : Int) (n3 : Int) {H : Heap} {R : Value -> Heap -> Prop} (h : Zph from0 to1 kind2 n3 H fun v H1 => ∀ H2, Shut H H1 H2 -> R v H2) : FnW Tryz.prog Zmm ⟨[(Value.int .u32 from0), (Value.int .u32 to1), (Value.int .u8 kind2), (Value.int .i64 n3)]⟩ H R := FnW.of_code Zbwj (by kernel_rfl) (Eq.mp (Zbql from0 to1 kind2 n3 H _) h)
def Zbme : Plan := ⟨[], [], [], []⟩
theorem Zbqy : Known Tryz.prog Zis Tryz.f113 Zbme (Zb Tryz.f113) := by refine ⟨Tryz.func113, ?_, ?_, ?_, ?_, ?_⟩ <;> kernel_rfl
def Zup (c0b : Nat) (most1 : Int) (H : Heap) (R : Value -> Heap -> Prop) : Prop :=
 ∃ x9 : Int, H.cell ⟨c0b, 3, none⟩ = some (Value.int .u32 x9) ∧
 FnW Tryz.prog Zcv ⟨[(Value.int .u32 x9), (Value.int .i64 1)]⟩ H fun x10v H1 =>
 ∃ x10 : Int, x10v = (Value.int .u32 x10) ∧
 FnW Tryz.prog Zni ⟨[(Value.int .u32 x10), (Value.int .i64 4096), (Value.int .i64 0), (Value.int .i64 most1)]⟩ H1 fun x12v H2 =>
 ∃ x12r0 : Option Addr, ∃ x12r1 : Int, x12v = (Value.tuple ⟨[(Value.pointer x12r0), (Value.int .i64 x12r1)]⟩) ∧
 Za H2 ⟨c0b, 4, none⟩ (Value.pointer x12r0) fun H3 =>
 R (Value.tuple ⟨[]⟩) H3
theorem Zbxs (c0b : Nat) (most1 : Int) (H : Heap) (R : Value -> Heap -> Prop) : Zup c0b most1 H R = Zc Tryz.prog Zbme (Zb Tryz.f113) (env0 [(Value.pointer (some ⟨c0b, 0, none⟩)), (Value.int .i64 most1)]) H (RetW Tryz.prog Tryz.f113.results.toList R) := by kernel_rfl
theorem Zbrp (c0b : Nat) (most1 : Int) {H : Heap} {R : Value -> Heap -> Prop} (h : Zup c0b most1 H fun v H1 => ∀ H2, Shut H H1 H2 -> R v H2) : FnW Tryz.prog Zis ⟨[(Value.pointer (some ⟨c0b, 0, none⟩)), (Value.int .i64 most1)]⟩ H R := FnW.of_code Zbqy (by kernel_rfl) (Eq.mp (Zbxs c0b most1 H _) h)
def Zbbu : Plan := ⟨[(1, [0, 1, 2, 3, 4, 5, 6, 7, 8, 9, 10, 11, 12, 13, 14, 16, 17, 19, 15, 18, 20, 21, 22, 23, 24, 25], [13, 17, 21])], [], [], []⟩
theorem Zbzg : Known Tryz.prog Zgg Tryz.f114 Zbbu (Zb Tryz.f114) := by refine ⟨Tryz.func114, ?_, ?_, ?_, ?_, ?_⟩ <;> kernel_rfl
def Zbbc (c0b : Nat) (at1 : Int) (flags2 : Int) (b3a : Option Addr) (b3n : Nat) (b3c : Nat) (H : Heap) (R : Value -> Heap -> Prop) : Prop :=
 ∃ bs : List Nat, (∀ b ∈ bs, ∃ o, H b = some o) ∧
 c0b ∈ bs ∧ ∃ (x13a : Option Addr) (x13n x13c : Nat), H.cell ⟨c0b, 12, none⟩ = some (Value.slice x13a x13n x13c) ∧
 c0b ∈ bs ∧ ∃ x17 : Int, H.cell ⟨c0b, 1, none⟩ = some (Value.int .i64 x17) ∧
 c0b ∈ bs ∧ ∃ x21 : Int, H.cell ⟨c0b, 2, none⟩ = some (Value.int .i64 x21) ∧
 FnW Tryz.prog Zgl ⟨[(Value.pointer (some ⟨c0b, 0, none⟩))]⟩ H fun x24v H1 =>
 ∃ x24 : Int, x24v = (Value.int .u32 x24) ∧
 Ze bs H H1 ∧ FnW Tryz.prog Zsu ⟨[(Value.pointer (some ⟨c0b, 0, none⟩))]⟩ H1 fun x27v H2 =>
 ∃ x27 : Int, x27v = (Value.int .i64 x27) ∧
 Ze bs H H2 ∧ NewW H2 (Obj.cells ⟨[(Value.int .i64 x17), (Value.int .i64 x21), (Value.int .u32 at1), (Value.int .u32 x24), (Value.int .i64 flags2), (Value.int .i64 x27), (Value.int .i64 0), (Value.int .i64 0), (Value.slice b3a b3n b3c)]⟩ Zl) fun x30b H3 =>
 AppW Tryz.prog #[Zfo, Zfo] Zfo [(Value.slice x13a x13n x13c), (Value.slice (some ⟨x30b, 0, none⟩) 1 1)] H3 fun x31v H4 =>
 ∃ (x31a : Option Addr) (x31n x31c : Nat), x31v = (Value.slice x31a x31n x31c) ∧
 Ze bs H H4 ∧ Za H4 ⟨c0b, 12, none⟩ (Value.slice x31a x31n x31c) fun H5 =>
 ∃ (x37a : Option Addr) (x37n x37c : Nat), H5.cell ⟨c0b, 12, none⟩ = some (Value.slice x37a x37n x37c) ∧
 ∃ (x41a : Option Addr) (x41n x41c : Nat), H5.cell ⟨c0b, 12, none⟩ = some (Value.slice x41a x41n x41c) ∧
 NilP x37a fun x44q =>
 InB (IntKind.wrap .i64 ((x41n : Int) - 1)) x37n fun x44i =>
 elemAt x44q x44i 9 fun x44p =>
 R (Value.pointer (some x44p)) H5
theorem Zbuo (c0b : Nat) (at1 : Int) (flags2 : Int) (b3a : Option Addr) (b3n : Nat) (b3c : Nat) (H : Heap) (R : Value -> Heap -> Prop) : Zbbc c0b at1 flags2 b3a b3n b3c H R = Zc Tryz.prog Zbbu (Zb Tryz.f114) (env0 [(Value.pointer (some ⟨c0b, 0, none⟩)), (Value.int .u32 at1), (Value.int .i64 flags2), (Value.slice b3a b3n b3c)]) H (RetW Tryz.prog Tryz.f114.results.toList R) := by kernel_rfl
theorem Zbtj (c0b : Nat) (at1 : Int) (flags2 : Int) (b3a : Option Addr) (b3n : Nat) (b3c : Nat) {H : Heap} {R : Value -> Heap -> Prop} (h : Zbbc c0b at1 flags2 b3a b3n b3c H fun v H1 => ∀ H2, Shut H H1 H2 -> R v H2) : FnW Tryz.prog Zgg ⟨[(Value.pointer (some ⟨c0b, 0, none⟩)), (Value.int .u32 at1), (Value.int .i64 flags2), (Value.slice b3a b3n b3c)]⟩ H R := FnW.of_code Zbzg (by kernel_rfl) (Eq.mp (Zbuo c0b at1 flags2 b3a b3n b3c H _) h)
def Zbfv : Plan := ⟨[], [], [], []⟩
theorem Zckl : Known Tryz.prog Zqr Tryz.f115 Zbfv (Zb Tryz.f115) := by refine ⟨Tryz.func115, ?_, ?_, ?_, ?_, ?_⟩ <;> kernel_rfl
def Zoq (c0b : Nat) (x30 : Bool) (H5 : Heap) (R : Value -> Heap -> Prop) : Prop :=
 IfB x30
 (R (Value.bool true) H5)
 (∃ x48 : Option Addr, H5.cell ⟨c0b, 4, none⟩ = some (Value.pointer x48) ∧
 FnW Tryz.prog Zlv ⟨[(Value.pointer x48)]⟩ H5 fun x49v H6 =>
 ∃ x49 : Int, x49v = (Value.int .i64 x49) ∧
 R (Value.bool (decide ((x49 : Int) > 0))) H6)
def Zrx (c0b : Nat) (x16 : Bool) (H2 : Heap) (R : Value -> Heap -> Prop) : Prop :=
 IfB x16
 (R (Value.bool true) H2)
 (∃ x34 : Option Addr, H2.cell ⟨c0b, 4, none⟩ = some (Value.pointer x34) ∧
 FnW Tryz.prog Zrt ⟨[(Value.pointer x34)]⟩ H2 fun x35v H3 =>
 ∃ x35 : Int, x35v = (Value.int .i64 x35) ∧
 IfB ((x35 : Int) == 0)
 (∃ x41 : Option Addr, H3.cell ⟨c0b, 4, none⟩ = some (Value.pointer x41) ∧
 FnW Tryz.prog Zll ⟨[(Value.pointer x41)]⟩ H3 fun x42v H4 =>
 ∃ x42 : Int, x42v = (Value.int .i64 x42) ∧
 Zoq c0b (decide ((x42 : Int) > 0)) H4 R)
 (Zoq c0b false H3 R))
def Zsl (c0b : Nat) (x3 : Bool) (H1 : Heap) (R : Value -> Heap -> Prop) : Prop :=
 IfB x3
 (R (Value.bool true) H1)
 (∃ x21 : Bool, H1.cell ⟨c0b, 7, none⟩ = some (Value.bool x21) ∧
 IfB x21
 (∃ x27 : Bool, H1.cell ⟨c0b, 8, none⟩ = some (Value.bool x27) ∧
 Zrx c0b (!x27) H1 R)
 (Zrx c0b false H1 R))
def Zbbe (c0b : Nat) (H : Heap) (R : Value -> Heap -> Prop) : Prop :=
 ∃ x7 : Int, H.cell ⟨c0b, 0, none⟩ = some (Value.int .i64 x7) ∧
 IfB ((x7 : Int) == 1)
 (Zsl c0b true H R)
 (∃ x13 : Int, H.cell ⟨c0b, 0, none⟩ = some (Value.int .i64 x13) ∧
 Zsl c0b ((x13 : Int) == 2) H R)
theorem Zbxz (c0b : Nat) (H : Heap) (R : Value -> Heap -> Prop) : Zbbe c0b H R = Zc Tryz.prog Zbfv (Zb Tryz.f115) (env0 [(Value.pointer (some ⟨c0b, 0, none⟩))]) H (RetW Tryz.prog Tryz.f115.results.toList R) := by kernel_rfl
theorem Zbou (c0b : Nat) {H : Heap} {R : Value -> Heap -> Prop} (h : Zbbe c0b H fun v H1 => ∀ H2, Shut H H1 H2 -> R v H2) : FnW Tryz.prog Zqr ⟨[(Value.pointer (some ⟨c0b, 0, none⟩))]⟩ H R := FnW.of_code Zckl (by kernel_rfl) (Eq.mp (Zbxz c0b H _) h)
def Zbcy : Plan := ⟨[], [], [], []⟩
theorem Zcay : Known Tryz.prog Zqm Tryz.f116 Zbcy (Zb Tryz.f116) := by refine ⟨Tryz.func116, ?_, ?_, ?_, ?_, ?_⟩ <;> kernel_rfl
def Zti (o0b : Nat) (H : Heap) (R : Value -> Heap -> Prop) : Prop :=
 FnW Tryz.prog Zec ⟨[(Value.pointer (some ⟨o0b, 0, none⟩))]⟩ H fun x4v H1 =>
 ∃ x4 : Bool, x4v = (Value.bool x4) ∧
 IfB (!x4)
 (R (Value.int .i64 0) H1)
 (∃ x9 : Option Addr, H1.cell ⟨o0b, 0, none⟩ = some (Value.pointer x9) ∧
 FnW Tryz.prog Znw ⟨[(Value.pointer x9)]⟩ H1 fun x10v H2 =>
 ∃ x10 : Int, x10v = (Value.int .i64 x10) ∧
 R (Value.int .i64 x10) H2)
theorem Zcev (o0b : Nat) (H : Heap) (R : Value -> Heap -> Prop) : Zti o0b H R = Zc Tryz.prog Zbcy (Zb Tryz.f116) (env0 [(Value.pointer (some ⟨o0b, 0, none⟩))]) H (RetW Tryz.prog Tryz.f116.results.toList R) := by kernel_rfl
theorem Zbui (o0b : Nat) {H : Heap} {R : Value -> Heap -> Prop} (h : Zti o0b H fun v H1 => ∀ H2, Shut H H1 H2 -> R v H2) : FnW Tryz.prog Zqm ⟨[(Value.pointer (some ⟨o0b, 0, none⟩))]⟩ H R := FnW.of_code Zcay (by kernel_rfl) (Eq.mp (Zcev o0b H _) h)
def Zbdb : Plan := ⟨[], [], [(2, 6)], []⟩
theorem Zcjf : Known Tryz.prog Znp Tryz.f117 Zbdb (Zb Tryz.f117) := by refine ⟨Tryz.func117, ?_, ?_, ?_, ?_, ?_⟩ <;> kernel_rfl
def Zpm (s1b : Nat) (x6 : Int) (x8 : Int) (x10 : Int) (x12 : Int) (x14 : Int) (x24_4 : Bool) (H6 : Heap) (R : Value -> Heap -> Prop) : Prop :=
 IfB x24_4
 (R (Value.bool false) H6)
 (IfB (decide (((IntKind.wrap .i64 ((IntKind.wrap .i64 ((IntKind.wrap .i64 ((IntKind.wrap .i64 ((IntKind.wrap .i64 (0 + 1)) + 1)) + 1)) + 1)) + 1)) : Int) < 5))
 ((0 : Int) <= (IntKind.wrap .i64 ((IntKind.wrap .i64 ((IntKind.wrap .i64 ((IntKind.wrap .i64 ((IntKind.wrap .i64 (0 + 1)) + 1)) + 1)) + 1)) + 1)) ∧ ((IntKind.wrap .i64 ((IntKind.wrap .i64 ((IntKind.wrap .i64 ((IntKind.wrap .i64 ((IntKind.wrap .i64 (0 + 1)) + 1)) + 1)) + 1)) + 1)) : Int) < 5 ∧
 False)
 (∃ x27 : Int, H6.cell ⟨s1b, 4, none⟩ = some (Value.int .i64 x27) ∧
 IfB (decide ((x27 : Int) ≥ 0))
 (∃ x31 : Int, H6.cell ⟨s1b, 4, none⟩ = some (Value.int .i64 x31) ∧
 R (Value.bool (decide ((x31 : Int) < 64))) H6)
 (R (Value.bool false) H6)))
def Zpq (s1b : Nat) (x6 : Int) (x8 : Int) (x10 : Int) (x12 : Int) (x14 : Int) (x24_3 : Bool) (H5 : Heap) (R : Value -> Heap -> Prop) : Prop :=
 IfB x24_3
 (R (Value.bool false) H5)
 (IfB (decide (((IntKind.wrap .i64 ((IntKind.wrap .i64 ((IntKind.wrap .i64 ((IntKind.wrap .i64 (0 + 1)) + 1)) + 1)) + 1)) : Int) < 5))
 ((0 : Int) <= (IntKind.wrap .i64 ((IntKind.wrap .i64 ((IntKind.wrap .i64 ((IntKind.wrap .i64 (0 + 1)) + 1)) + 1)) + 1)) ∧ ((IntKind.wrap .i64 ((IntKind.wrap .i64 ((IntKind.wrap .i64 ((IntKind.wrap .i64 (0 + 1)) + 1)) + 1)) + 1)) : Int) < 5 ∧
 IfB (decide ((x14 : Int) < 0))
 (Zpm s1b x6 x8 x10 x12 x14 true H5 R)
 (Zpm s1b x6 x8 x10 x12 x14 (decide ((x14 : Int) > 65535)) H5 R))
 (∃ x27_1 : Int, H5.cell ⟨s1b, 4, none⟩ = some (Value.int .i64 x27_1) ∧
 IfB (decide ((x27_1 : Int) ≥ 0))
 (∃ x31_1 : Int, H5.cell ⟨s1b, 4, none⟩ = some (Value.int .i64 x31_1) ∧
 R (Value.bool (decide ((x31_1 : Int) < 64))) H5)
 (R (Value.bool false) H5)))
def Zos (s1b : Nat) (x6 : Int) (x8 : Int) (x10 : Int) (x12 : Int) (x14 : Int) (x24_2 : Bool) (H4 : Heap) (R : Value -> Heap -> Prop) : Prop :=
 IfB x24_2
 (R (Value.bool false) H4)
 (IfB (decide (((IntKind.wrap .i64 ((IntKind.wrap .i64 ((IntKind.wrap .i64 (0 + 1)) + 1)) + 1)) : Int) < 5))
 ((0 : Int) <= (IntKind.wrap .i64 ((IntKind.wrap .i64 ((IntKind.wrap .i64 (0 + 1)) + 1)) + 1)) ∧ ((IntKind.wrap .i64 ((IntKind.wrap .i64 ((IntKind.wrap .i64 (0 + 1)) + 1)) + 1)) : Int) < 5 ∧
 IfB (decide ((x12 : Int) < 0))
 (Zpq s1b x6 x8 x10 x12 x14 true H4 R)
 (Zpq s1b x6 x8 x10 x12 x14 (decide ((x12 : Int) > 65535)) H4 R))
 (∃ x27_2 : Int, H4.cell ⟨s1b, 4, none⟩ = some (Value.int .i64 x27_2) ∧
 IfB (decide ((x27_2 : Int) ≥ 0))
 (∃ x31_2 : Int, H4.cell ⟨s1b, 4, none⟩ = some (Value.int .i64 x31_2) ∧
 R (Value.bool (decide ((x31_2 : Int) < 64))) H4)
 (R (Value.bool false) H4)))
def Zmu (s1b : Nat) (x6 : Int) (x8 : Int) (x10 : Int) (x12 : Int) (x14 : Int) (x24_1 : Bool) (H3 : Heap) (R : Value -> Heap -> Prop) : Prop :=
 IfB x24_1
 (R (Value.bool false) H3)
 (IfB (decide (((IntKind.wrap .i64 ((IntKind.wrap .i64 (0 + 1)) + 1)) : Int) < 5))
 ((0 : Int) <= (IntKind.wrap .i64 ((IntKind.wrap .i64 (0 + 1)) + 1)) ∧ ((IntKind.wrap .i64 ((IntKind.wrap .i64 (0 + 1)) + 1)) : Int) < 5 ∧
 IfB (decide ((x10 : Int) < 0))
 (Zos s1b x6 x8 x10 x12 x14 true H3 R)
 (Zos s1b x6 x8 x10 x12 x14 (decide ((x10 : Int) > 65535)) H3 R))
 (∃ x27_3 : Int, H3.cell ⟨s1b, 4, none⟩ = some (Value.int .i64 x27_3) ∧
 IfB (decide ((x27_3 : Int) ≥ 0))
 (∃ x31_3 : Int, H3.cell ⟨s1b, 4, none⟩ = some (Value.int .i64 x31_3) ∧
 R (Value.bool (decide ((x31_3 : Int) < 64))) H3)
 (R (Value.bool false) H3)))
def Zre (s1b : Nat) (x6 : Int) (x8 : Int) (x10 : Int) (x12 : Int) (x14 : Int) (x24 : Bool) (H2 : Heap) (R : Value -> Heap -> Prop) : Prop :=
 IfB x24
 (R (Value.bool false) H2)
 (IfB (decide (((IntKind.wrap .i64 (0 + 1)) : Int) < 5))
 ((0 : Int) <= (IntKind.wrap .i64 (0 + 1)) ∧ ((IntKind.wrap .i64 (0 + 1)) : Int) < 5 ∧
 IfB (decide ((x8 : Int) < 0))
 (Zmu s1b x6 x8 x10 x12 x14 true H2 R)
 (Zmu s1b x6 x8 x10 x12 x14 (decide ((x8 : Int) > 65535)) H2 R))
 (∃ x27_4 : Int, H2.cell ⟨s1b, 4, none⟩ = some (Value.int .i64 x27_4) ∧
 IfB (decide ((x27_4 : Int) ≥ 0))
 (∃ x31_4 : Int, H2.cell ⟨s1b, 4, none⟩ = some (Value.int .i64 x31_4) ∧
 R (Value.bool (decide ((x31_4 : Int) < 64))) H2)
 (R (Value.bool false) H2)))
def Zxu (s0c0 : Int) (s0c1 : Int) (s0c2 : Int) (s0c3 : Int) (s0c4 : Int) (s0c5 : Int) (s0c6 : Int) (s0c7 : Int) (s0c8a : Option Addr) (s0c8n : Nat) (s0c8c : Nat) (H : Heap) (R : Value -> Heap -> Prop) : Prop :=
 NewW H (Obj.cells ⟨[(Value.int .i64 s0c0), (Value.int .i64 s0c1), (Value.int .u32 s0c2), (Value.int .u32 s0c3), (Value.int .i64 s0c4), (Value.int .i64 s0c5), (Value.int .i64 s0c6), (Value.int .i64 s0c7), (Value.slice s0c8a s0c8n s0c8c)]⟩ Zl) fun s1b H1 =>
 ∃ x6 : Int, H1.cell ⟨s1b, 0, none⟩ = some (Value.int .i64 x6) ∧
 ∃ x8 : Int, H1.cell ⟨s1b, 1, none⟩ = some (Value.int .i64 x8) ∧
 ∃ x10 : Int, H1.cell ⟨s1b, 5, none⟩ = some (Value.int .i64 x10) ∧
 ∃ x12 : Int, H1.cell ⟨s1b, 6, none⟩ = some (Value.int .i64 x12) ∧
 ∃ x14 : Int, H1.cell ⟨s1b, 7, none⟩ = some (Value.int .i64 x14) ∧
 IfB (decide ((0 : Int) < 5))
 ((0 : Int) <= 0 ∧ (0 : Int) < 5 ∧
 IfB (decide ((x6 : Int) < 0))
 (Zre s1b x6 x8 x10 x12 x14 true H1 R)
 (Zre s1b x6 x8 x10 x12 x14 (decide ((x6 : Int) > 65535)) H1 R))
 (∃ x27_5 : Int, H1.cell ⟨s1b, 4, none⟩ = some (Value.int .i64 x27_5) ∧
 IfB (decide ((x27_5 : Int) ≥ 0))
 (∃ x31_5 : Int, H1.cell ⟨s1b, 4, none⟩ = some (Value.int .i64 x31_5) ∧
 R (Value.bool (decide ((x31_5 : Int) < 64))) H1)
 (R (Value.bool false) H1))
theorem Zbxq (s0c0 : Int) (s0c1 : Int) (s0c2 : Int) (s0c3 : Int) (s0c4 : Int) (s0c5 : Int) (s0c6 : Int) (s0c7 : Int) (s0c8a : Option Addr) (s0c8n : Nat) (s0c8c : Nat) (H : Heap) (R : Value -> Heap -> Prop) : Zxu s0c0 s0c1 s0c2 s0c3 s0c4 s0c5 s0c6 s0c7 s0c8a s0c8n s0c8c H R = Zc Tryz.prog Zbdb (Zb Tryz.f117) (env0 [(Value.agg ⟨[(Value.int .i64 s0c0), (Value.int .i64 s0c1), (Value.int .u32 s0c2), (Value.int .u32 s0c3), (Value.int .i64 s0c4), (Value.int .i64 s0c5), (Value.int .i64 s0c6), (Value.int .i64 s0c7), (Value.slice s0c8a s0c8n s0c8c)]⟩)]) H (RetW Tryz.prog Tryz.f117.results.toList R) := by kernel_rfl
theorem Zbzd (s0c0 : Int) (s0c1 : Int) (s0c2 : Int) (s0c3 : Int) (s0c4 : Int) (s0c5 : Int) (s0c6 : Int) (s0c7 : Int) (s0c8a : Option Addr) (s0c8n : Nat) (s0c8c : Nat) {H : Heap} {R : Value -> Heap -> Prop} (h : Zxu s0c0 s0c1 s0c2 s0c3 s0c4 s0c5 s0c6 s0c7 s0c8a s0c8n s0c8c H fun v H1 => ∀ H2, Shut H H1 H2 -> R v H2) : FnW Tryz.prog Znp ⟨[(Value.agg ⟨[(Value.int .i64 s0c0), (Value.int .i64 s0c1), (Value.int .u32 s0c2), (Value.int .u32 s0c3), (Value.int .i64 s0c4), (Value.int .i64 s0c5), (Value.int .i64 s0c6), (Value.int .i64 s0c7), (Value.slice s0c8a s0c8n s0c8c)]⟩)]⟩ H R := FnW.of_code Zcjf (by kernel_rfl) (Eq.mp (Zbxq s0c0 s0c1 s0c2 s0c3 s0c4 s0c5 s0c6 s0c7 s0c8a s0c8n s0c8c H _) h)
def Zblf : Plan := ⟨[], [], [], []⟩
theorem Zbtz : Known Tryz.prog Zld Tryz.f118 Zblf (Zb Tryz.f118) := by refine ⟨Tryz.func118, ?_, ?_, ?_, ?_, ?_⟩ <;> kernel_rfl
def Zqp (s0c0 : Int) (s0c1 : Int) (s0c2 : Int) (s0c3 : Int) (s0c4 : Int) (s0c5 : Int) (s0c6 : Int) (s0c7 : Int) (s0c8a : Option Addr) (s0c8n : Nat) (s0c8c : Nat) (H : Heap) (R : Value -> Heap -> Prop) : Prop :=
 NewW H (Obj.cells ⟨[(Value.int .i64 s0c0), (Value.int .i64 s0c1), (Value.int .u32 s0c2), (Value.int .u32 s0c3), (Value.int .i64 s0c4), (Value.int .i64 s0c5), (Value.int .i64 s0c6), (Value.int .i64 s0c7), (Value.slice s0c8a s0c8n s0c8c)]⟩ Zl) fun s1b H1 =>
 ∃ x4 : Int, H1.cell ⟨s1b, 7, none⟩ = some (Value.int .i64 x4) ∧
 IfB ((x4 : Int) == 0)
 (R (Value.slice none 0 0) H1)
 (∃ x7 : Int, H1.cell ⟨s1b, 7, none⟩ = some (Value.int .i64 x7) ∧
 (0 : Int) <= 8 ∧
 ∃ x11 : Int, H1.cell ⟨s1b, 7, none⟩ = some (Value.int .i64 x11) ∧
 NewW H1 (Obj.cells ⟨[(Value.int .u8 2), (Value.int .u8 4), (Value.int .u8 (IntKind.wrap .u8 (Int.fdiv x7 (2 ^ (min (8 : Int).toNat (IntKind.bits .i64)))))), (Value.int .u8 (IntKind.wrap .u8 x11))]⟩ Zf) fun x13b H2 =>
 R (Value.slice (some ⟨x13b, 0, none⟩) 4 4) H2)
theorem Zbwr (s0c0 : Int) (s0c1 : Int) (s0c2 : Int) (s0c3 : Int) (s0c4 : Int) (s0c5 : Int) (s0c6 : Int) (s0c7 : Int) (s0c8a : Option Addr) (s0c8n : Nat) (s0c8c : Nat) (H : Heap) (R : Value -> Heap -> Prop) : Zqp s0c0 s0c1 s0c2 s0c3 s0c4 s0c5 s0c6 s0c7 s0c8a s0c8n s0c8c H R = Zc Tryz.prog Zblf (Zb Tryz.f118) (env0 [(Value.agg ⟨[(Value.int .i64 s0c0), (Value.int .i64 s0c1), (Value.int .u32 s0c2), (Value.int .u32 s0c3), (Value.int .i64 s0c4), (Value.int .i64 s0c5), (Value.int .i64 s0c6), (Value.int .i64 s0c7), (Value.slice s0c8a s0c8n s0c8c)]⟩)]) H (RetW Tryz.prog Tryz.f118.results.toList R) := by kernel_rfl
theorem Zbck (s0c0 : Int) (s0c1 : Int) (s0c2 : Int) (s0c3 : Int) (s0c4 : Int) (s0c5 : Int) (s0c6 : Int) (s0c7 : Int) (s0c8a : Option Addr) (s0c8n : Nat) (s0c8c : Nat) {H : Heap} {R : Value -> Heap -> Prop} (h : Zqp s0c0 s0c1 s0c2 s0c3 s0c4 s0c5 s0c6 s0c7 s0c8a s0c8n s0c8c H fun v H1 => ∀ H2, Shut H H1 H2 -> R v H2) : FnW Tryz.prog Zld ⟨[(Value.agg ⟨[(Value.int .i64 s0c0), (Value.int .i64 s0c1), (Value.int .u32 s0c2), (Value.int .u32 s0c3), (Value.int .i64 s0c4), (Value.int .i64 s0c5), (Value.int .i64 s0c6), (Value.int .i64 s0c7), (Value.slice s0c8a s0c8n s0c8c)]⟩)]⟩ H R := FnW.of_code Zbtz (by kernel_rfl) (Eq.mp (Zbwr s0c0 s0c1 s0c2 s0c3 s0c4 s0c5 s0c6 s0c7 s0c8a s0c8n s0c8c H _) h)
def Zbml : Plan := ⟨[], [], [], []⟩
theorem Zbwv : Known Tryz.prog Zcj Tryz.f119 Zbml (Zb Tryz.f119) := by refine ⟨Tryz.func119, ?_, ?_, ?_, ?_, ?_⟩ <;> kernel_rfl
def Zjg (b0a : Option Addr) (b0n : Nat) (b0c : Nat) (n1 : Int) (H : Heap) (R : Value -> Heap -> Prop) : Prop :=
 (0 : Int) <= 8 ∧
 NilP b0a fun x11q =>
 InB 0 b0n fun x11i =>
 elemAt x11q x11i 1 fun x11p =>
 Za H x11p (Value.int .u8 (IntKind.wrap .u8 (Int.fdiv n1 (2 ^ (min (8 : Int).toNat (IntKind.bits .i64)))))) fun H1 =>
 NilP b0a fun x12q =>
 InB 1 b0n fun x12i =>
 elemAt x12q x12i 1 fun x12p =>
 Za H1 x12p (Value.int .u8 (IntKind.wrap .u8 n1)) fun H2 =>
 R (Value.tuple ⟨[]⟩) H2
theorem Zcao (b0a : Option Addr) (b0n : Nat) (b0c : Nat) (n1 : Int) (H : Heap) (R : Value -> Heap -> Prop) : Zjg b0a b0n b0c n1 H R = Zc Tryz.prog Zbml (Zb Tryz.f119) (env0 [(Value.slice b0a b0n b0c), (Value.int .i64 n1)]) H (RetW Tryz.prog Tryz.f119.results.toList R) := by kernel_rfl
theorem Zoy (b0a : Option Addr) (b0n : Nat) (b0c : Nat) (n1 : Int) {H : Heap} {R : Value -> Heap -> Prop} (h : Zjg b0a b0n b0c n1 H fun v H1 => ∀ H2, Shut H H1 H2 -> R v H2) : FnW Tryz.prog Zcj ⟨[(Value.slice b0a b0n b0c), (Value.int .i64 n1)]⟩ H R := FnW.of_code Zbwv (by kernel_rfl) (Eq.mp (Zcao b0a b0n b0c n1 H _) h)
def Zbep : Plan := ⟨[], [], [], []⟩
theorem Zbqu : Known Tryz.prog Zgf Tryz.f120 Zbep (Zb Tryz.f120) := by refine ⟨Tryz.func120, ?_, ?_, ?_, ?_, ?_⟩ <;> kernel_rfl
def Zrr (b0a : Option Addr) (b0n : Nat) (b0c : Nat) (n1 : Int) (H : Heap) (R : Value -> Heap -> Prop) : Prop :=
 (0 : Int) <= 16 ∧
 FnW Tryz.prog Zcj ⟨[(Value.slice b0a b0n b0c), (Value.int .i64 (IntKind.wrap .i64 (Int.fdiv n1 (2 ^ (min (16 : Int).toNat (IntKind.bits .u32))))))]⟩ H fun x8v H1 =>
 x8v = (Value.tuple ⟨[]⟩) ∧
 InC 2 b0n fun x10l =>
 FnW Tryz.prog Zcj ⟨[(Value.slice (if b0c = x10l then b0a else Option.map (fun a => Addr.add a (x10l * 1)) b0a) (b0n - x10l) (b0c - x10l)), (Value.int .i64 (IntKind.wrap .i64 n1))]⟩ H1 fun x13v H2 =>
 x13v = (Value.tuple ⟨[]⟩) ∧
 R (Value.tuple ⟨[]⟩) H2
theorem Zbzx (b0a : Option Addr) (b0n : Nat) (b0c : Nat) (n1 : Int) (H : Heap) (R : Value -> Heap -> Prop) : Zrr b0a b0n b0c n1 H R = Zc Tryz.prog Zbep (Zb Tryz.f120) (env0 [(Value.slice b0a b0n b0c), (Value.int .u32 n1)]) H (RetW Tryz.prog Tryz.f120.results.toList R) := by kernel_rfl
theorem Zbjj (b0a : Option Addr) (b0n : Nat) (b0c : Nat) (n1 : Int) {H : Heap} {R : Value -> Heap -> Prop} (h : Zrr b0a b0n b0c n1 H fun v H1 => ∀ H2, Shut H H1 H2 -> R v H2) : FnW Tryz.prog Zgf ⟨[(Value.slice b0a b0n b0c), (Value.int .u32 n1)]⟩ H R := FnW.of_code Zbqu (by kernel_rfl) (Eq.mp (Zbzx b0a b0n b0c n1 H _) h)
def Zbdc : Plan := ⟨[], [], [], []⟩
theorem Zchv : Known Tryz.prog Zkw Tryz.f121 Zbdc (Zb Tryz.f121) := by refine ⟨Tryz.func121, ?_, ?_, ?_, ?_, ?_⟩ <;> kernel_rfl
def Zom (partial0 : Int) (H : Heap) (R : Value -> Heap -> Prop) : Prop :=
 FnW Tryz.prog Zcr ⟨[(Value.int .u32 partial0)]⟩ H fun x4v H1 =>
 ∃ x4 : Int, x4v = (Value.int .u32 x4) ∧
 R (Value.int .u16 (Zul .u16 (if IntKind.signed .u16 = true then (-1) else IntKind.max .u16) (IntKind.wrap .u16 x4))) H1
theorem Zcir (partial0 : Int) (H : Heap) (R : Value -> Heap -> Prop) : Zom partial0 H R = Zc Tryz.prog Zbdc (Zb Tryz.f121) (env0 [(Value.int .u32 partial0)]) H (RetW Tryz.prog Tryz.f121.results.toList R) := by kernel_rfl
theorem Zbeq (partial0 : Int) {H : Heap} {R : Value -> Heap -> Prop} (h : Zom partial0 H fun v H1 => ∀ H2, Shut H H1 H2 -> R v H2) : FnW Tryz.prog Zkw ⟨[(Value.int .u32 partial0)]⟩ H R := FnW.of_code Zchv (by kernel_rfl) (Eq.mp (Zcir partial0 H _) h)
def Zzr : Plan := ⟨[], [], [], []⟩
theorem Zbgy : Known Tryz.prog Zjz Tryz.f126 Zzr (Zb Tryz.f126) := by refine ⟨Tryz.func126, ?_, ?_, ?_, ?_, ?_⟩ <;> kernel_rfl
def Zwn (j0b : Nat) (H : Heap) (R : Value -> Heap -> Prop) : Prop :=
 FnW Tryz.prog Zdy ⟨[(Value.pointer (some ⟨j0b, 0, none⟩))]⟩ H fun x4v H1 =>
 ∃ x4 : Bool, x4v = (Value.bool x4) ∧
 IfB (!x4)
 (R (Value.int .i64 0) H1)
 (∃ (x9a : Option Addr) (x9n x9c : Nat), H1.cell ⟨j0b, 5, none⟩ = some (Value.slice x9a x9n x9c) ∧
 R (Value.int .i64 (x9n : Int)) H1)
theorem Zcak (j0b : Nat) (H : Heap) (R : Value -> Heap -> Prop) : Zwn j0b H R = Zc Tryz.prog Zzr (Zb Tryz.f126) (env0 [(Value.pointer (some ⟨j0b, 0, none⟩))]) H (RetW Tryz.prog Tryz.f126.results.toList R) := by kernel_rfl
theorem Zbpd (j0b : Nat) {H : Heap} {R : Value -> Heap -> Prop} (h : Zwn j0b H fun v H1 => ∀ H2, Shut H H1 H2 -> R v H2) : FnW Tryz.prog Zjz ⟨[(Value.pointer (some ⟨j0b, 0, none⟩))]⟩ H R := FnW.of_code Zbgy (by kernel_rfl) (Eq.mp (Zcak j0b H _) h)
def Zbah (H : Heap) (R : Value -> Heap -> Prop) : Prop :=
 FnW Tryz.prog Zdy ⟨[(Value.pointer none)]⟩ H fun x4v H1 =>
 ∃ x4 : Bool, x4v = (Value.bool x4) ∧
 IfB (!x4)
 (R (Value.int .i64 0) H1)
 (False)
theorem Zcgv  (H : Heap) (R : Value -> Heap -> Prop) : Zbah  H R = Zc Tryz.prog Zzr (Zb Tryz.f126) (env0 [(Value.pointer none)]) H (RetW Tryz.prog Tryz.f126.results.toList R) := by kernel_rfl
theorem Zcik  {H : Heap} {R : Value -> Heap -> Prop} (h : Zbah  H fun v H1 => ∀ H2, Shut H H1 H2 -> R v H2) : FnW Tryz.prog Zjz ⟨[(Value.pointer none)]⟩ H R := FnW.of_code Zbgy (by kernel_rfl) (Eq.mp (Zcgv  H _) h)
def Zbhw : Plan := ⟨[], [], [], []⟩
theorem Zcip : Known Tryz.prog Zby Tryz.f127 Zbhw (Zb Tryz.f127) := by refine ⟨Tryz.func127, ?_, ?_, ?_, ?_, ?_⟩ <;> kernel_rfl
def Zyc (s0c0 : Int) (s0c1 : Int) (s0c2 : Int) (s0c3 : Int) (s0c4 : Int) (s0c5 : Int) (s0c6 : Int) (s0c7 : Int) (s0c8a : Option Addr) (s0c8n : Nat) (s0c8c : Nat) (flag1 : Int) (H : Heap) (R : Value -> Heap -> Prop) : Prop :=
 NewW H (Obj.cells ⟨[(Value.int .i64 s0c0), (Value.int .i64 s0c1), (Value.int .u32 s0c2), (Value.int .u32 s0c3), (Value.int .i64 s0c4), (Value.int .i64 s0c5), (Value.int .i64 s0c6), (Value.int .i64 s0c7), (Value.slice s0c8a s0c8n s0c8c)]⟩ Zl) fun s2b H1 =>
 ∃ x6 : Int, H1.cell ⟨s2b, 4, none⟩ = some (Value.int .i64 x6) ∧
 R (Value.bool (((Zz .i64 x6 flag1) : Int) != 0)) H1
theorem Zcch (s0c0 : Int) (s0c1 : Int) (s0c2 : Int) (s0c3 : Int) (s0c4 : Int) (s0c5 : Int) (s0c6 : Int) (s0c7 : Int) (s0c8a : Option Addr) (s0c8n : Nat) (s0c8c : Nat) (flag1 : Int) (H : Heap) (R : Value -> Heap -> Prop) : Zyc s0c0 s0c1 s0c2 s0c3 s0c4 s0c5 s0c6 s0c7 s0c8a s0c8n s0c8c flag1 H R = Zc Tryz.prog Zbhw (Zb Tryz.f127) (env0 [(Value.agg ⟨[(Value.int .i64 s0c0), (Value.int .i64 s0c1), (Value.int .u32 s0c2), (Value.int .u32 s0c3), (Value.int .i64 s0c4), (Value.int .i64 s0c5), (Value.int .i64 s0c6), (Value.int .i64 s0c7), (Value.slice s0c8a s0c8n s0c8c)]⟩), (Value.int .i64 flag1)]) H (RetW Tryz.prog Tryz.f127.results.toList R) := by kernel_rfl
theorem Zchg (s0c0 : Int) (s0c1 : Int) (s0c2 : Int) (s0c3 : Int) (s0c4 : Int) (s0c5 : Int) (s0c6 : Int) (s0c7 : Int) (s0c8a : Option Addr) (s0c8n : Nat) (s0c8c : Nat) (flag1 : Int) {H : Heap} {R : Value -> Heap -> Prop} (h : Zyc s0c0 s0c1 s0c2 s0c3 s0c4 s0c5 s0c6 s0c7 s0c8a s0c8n s0c8c flag1 H fun v H1 => ∀ H2, Shut H H1 H2 -> R v H2) : FnW Tryz.prog Zby ⟨[(Value.agg ⟨[(Value.int .i64 s0c0), (Value.int .i64 s0c1), (Value.int .u32 s0c2), (Value.int .u32 s0c3), (Value.int .i64 s0c4), (Value.int .i64 s0c5), (Value.int .i64 s0c6), (Value.int .i64 s0c7), (Value.slice s0c8a s0c8n s0c8c)]⟩), (Value.int .i64 flag1)]⟩ H R := FnW.of_code Zcip (by kernel_rfl) (Eq.mp (Zcch s0c0 s0c1 s0c2 s0c3 s0c4 s0c5 s0c6 s0c7 s0c8a s0c8n s0c8c flag1 H _) h)
def Zbhp : Plan := ⟨[], [], [], []⟩
theorem Zbwy : Known Tryz.prog Zlq Tryz.f128 Zbhp (Zb Tryz.f128) := by refine ⟨Tryz.func128, ?_, ?_, ?_, ?_, ?_⟩ <;> kernel_rfl
def Zwv (c0b : Nat) (s1c0 : Int) (s1c1 : Int) (s1c2 : Int) (s1c3 : Int) (s1c4 : Int) (s1c5 : Int) (s1c6 : Int) (s1c7 : Int) (s1c8a : Option Addr) (s1c8n : Nat) (s1c8c : Nat) (H : Heap) (R : Value -> Heap -> Prop) : Prop :=
 NewW H (Obj.cells ⟨[(Value.int .i64 s1c0), (Value.int .i64 s1c1), (Value.int .u32 s1c2), (Value.int .u32 s1c3), (Value.int .i64 s1c4), (Value.int .i64 s1c5), (Value.int .i64 s1c6), (Value.int .i64 s1c7), (Value.slice s1c8a s1c8n s1c8c)]⟩ Zl) fun s3b H1 =>
 ∃ x7c0 : Int, H1.cell ⟨s3b, 0, none⟩ = some (Value.int .i64 x7c0) ∧ ∃ x7c1 : Int, H1.cell ⟨s3b, 1, none⟩ = some (Value.int .i64 x7c1) ∧ ∃ x7c2 : Int, H1.cell ⟨s3b, 2, none⟩ = some (Value.int .u32 x7c2) ∧ ∃ x7c3 : Int, H1.cell ⟨s3b, 3, none⟩ = some (Value.int .u32 x7c3) ∧ ∃ x7c4 : Int, H1.cell ⟨s3b, 4, none⟩ = some (Value.int .i64 x7c4) ∧ ∃ x7c5 : Int, H1.cell ⟨s3b, 5, none⟩ = some (Value.int .i64 x7c5) ∧ ∃ x7c6 : Int, H1.cell ⟨s3b, 6, none⟩ = some (Value.int .i64 x7c6) ∧ ∃ x7c7 : Int, H1.cell ⟨s3b, 7, none⟩ = some (Value.int .i64 x7c7) ∧ ∃ (x7c8a : Option Addr) (x7c8n x7c8c : Nat), H1.cell ⟨s3b, 8, none⟩ = some (Value.slice x7c8a x7c8n x7c8c) ∧ FnW Tryz.prog Zkp ⟨[(Value.agg ⟨[(Value.int .i64 x7c0), (Value.int .i64 x7c1), (Value.int .u32 x7c2), (Value.int .u32 x7c3), (Value.int .i64 x7c4), (Value.int .i64 x7c5), (Value.int .i64 x7c6), (Value.int .i64 x7c7), (Value.slice x7c8a x7c8n x7c8c)]⟩)]⟩ H1 fun x8v H2 =>
 ∃ x8r0c0 : Int, ∃ x8r0c1 : Int, ∃ x8r0c2 : Int, ∃ x8r0c3 : Int, ∃ x8r0c4 : Int, ∃ x8r0c5 : Int, ∃ x8r0c6 : Int, ∃ x8r0c7 : Int, ∃ (x8r0c8a : Option Addr) (x8r0c8n x8r0c8c : Nat), ∃ x8r1 : Bool, x8v = (Value.tuple ⟨[(Value.agg ⟨[(Value.int .i64 x8r0c0), (Value.int .i64 x8r0c1), (Value.int .u32 x8r0c2), (Value.int .u32 x8r0c3), (Value.int .i64 x8r0c4), (Value.int .i64 x8r0c5), (Value.int .i64 x8r0c6), (Value.int .i64 x8r0c7), (Value.slice x8r0c8a x8r0c8n x8r0c8c)]⟩), (Value.bool x8r1)]⟩) ∧
 NewW H2 (Obj.cells ⟨[(Value.int .i64 0), (Value.int .i64 0), (Value.int .u32 0), (Value.int .u32 0), (Value.int .i64 0), (Value.int .i64 0), (Value.int .i64 0), (Value.int .i64 0), (Value.slice none 0 0)]⟩ Zl) fun r4b H3 =>
 Za H3 ⟨r4b, 0, none⟩ (Value.int .i64 x8r0c0) fun H4 =>
 Za H4 ⟨r4b, 1, none⟩ (Value.int .i64 x8r0c1) fun H5 =>
 Za H5 ⟨r4b, 2, none⟩ (Value.int .u32 x8r0c2) fun H6 =>
 Za H6 ⟨r4b, 3, none⟩ (Value.int .u32 x8r0c3) fun H7 =>
 Za H7 ⟨r4b, 4, none⟩ (Value.int .i64 x8r0c4) fun H8 =>
 Za H8 ⟨r4b, 5, none⟩ (Value.int .i64 x8r0c5) fun H9 =>
 Za H9 ⟨r4b, 6, none⟩ (Value.int .i64 x8r0c6) fun H10 =>
 Za H10 ⟨r4b, 7, none⟩ (Value.int .i64 x8r0c7) fun H11 =>
 Za H11 ⟨r4b, 8, none⟩ (Value.slice x8r0c8a x8r0c8n x8r0c8c) fun H12 =>
 IfB x8r1
 (∃ (x16a : Option Addr) (x16n x16c : Nat), H12.cell ⟨c0b, 12, none⟩ = some (Value.slice x16a x16n x16c) ∧
 ∃ x17c0 : Int, H12.cell ⟨r4b, 0, none⟩ = some (Value.int .i64 x17c0) ∧ ∃ x17c1 : Int, H12.cell ⟨r4b, 1, none⟩ = some (Value.int .i64 x17c1) ∧ ∃ x17c2 : Int, H12.cell ⟨r4b, 2, none⟩ = some (Value.int .u32 x17c2) ∧ ∃ x17c3 : Int, H12.cell ⟨r4b, 3, none⟩ = some (Value.int .u32 x17c3) ∧ ∃ x17c4 : Int, H12.cell ⟨r4b, 4, none⟩ = some (Value.int .i64 x17c4) ∧ ∃ x17c5 : Int, H12.cell ⟨r4b, 5, none⟩ = some (Value.int .i64 x17c5) ∧ ∃ x17c6 : Int, H12.cell ⟨r4b, 6, none⟩ = some (Value.int .i64 x17c6) ∧ ∃ x17c7 : Int, H12.cell ⟨r4b, 7, none⟩ = some (Value.int .i64 x17c7) ∧ ∃ (x17c8a : Option Addr) (x17c8n x17c8c : Nat), H12.cell ⟨r4b, 8, none⟩ = some (Value.slice x17c8a x17c8n x17c8c) ∧ NewW H12 (Obj.cells ⟨[(Value.int .i64 x17c0), (Value.int .i64 x17c1), (Value.int .u32 x17c2), (Value.int .u32 x17c3), (Value.int .i64 x17c4), (Value.int .i64 x17c5), (Value.int .i64 x17c6), (Value.int .i64 x17c7), (Value.slice x17c8a x17c8n x17c8c)]⟩ Zl) fun x18b H13 =>
 AppW Tryz.prog #[Zfo, Zfo] Zfo [(Value.slice x16a x16n x16c), (Value.slice (some ⟨x18b, 0, none⟩) 1 1)] H13 fun x19v H14 =>
 ∃ (x19a : Option Addr) (x19n x19c : Nat), x19v = (Value.slice x19a x19n x19c) ∧
 Za H14 ⟨c0b, 12, none⟩ (Value.slice x19a x19n x19c) fun H15 =>
 R (Value.tuple ⟨[]⟩) H15)
 (R (Value.tuple ⟨[]⟩) H12)
theorem Zcds (c0b : Nat) (s1c0 : Int) (s1c1 : Int) (s1c2 : Int) (s1c3 : Int) (s1c4 : Int) (s1c5 : Int) (s1c6 : Int) (s1c7 : Int) (s1c8a : Option Addr) (s1c8n : Nat) (s1c8c : Nat) (H : Heap) (R : Value -> Heap -> Prop) : Zwv c0b s1c0 s1c1 s1c2 s1c3 s1c4 s1c5 s1c6 s1c7 s1c8a s1c8n s1c8c H R = Zc Tryz.prog Zbhp (Zb Tryz.f128) (env0 [(Value.pointer (some ⟨c0b, 0, none⟩)), (Value.agg ⟨[(Value.int .i64 s1c0), (Value.int .i64 s1c1), (Value.int .u32 s1c2), (Value.int .u32 s1c3), (Value.int .i64 s1c4), (Value.int .i64 s1c5), (Value.int .i64 s1c6), (Value.int .i64 s1c7), (Value.slice s1c8a s1c8n s1c8c)]⟩)]) H (RetW Tryz.prog Tryz.f128.results.toList R) := by kernel_rfl
theorem Zbnf (c0b : Nat) (s1c0 : Int) (s1c1 : Int) (s1c2 : Int) (s1c3 : Int) (s1c4 : Int) (s1c5 : Int) (s1c6 : Int) (s1c7 : Int) (s1c8a : Option Addr) (s1c8n : Nat) (s1c8c : Nat) {H : Heap} {R : Value -> Heap -> Prop} (h : Zwv c0b s1c0 s1c1 s1c2 s1c3 s1c4 s1c5 s1c6 s1c7 s1c8a s1c8n s1c8c H fun v H1 => ∀ H2, Shut H H1 H2 -> R v H2) : FnW Tryz.prog Zlq ⟨[(Value.pointer (some ⟨c0b, 0, none⟩)), (Value.agg ⟨[(Value.int .i64 s1c0), (Value.int .i64 s1c1), (Value.int .u32 s1c2), (Value.int .u32 s1c3), (Value.int .i64 s1c4), (Value.int .i64 s1c5), (Value.int .i64 s1c6), (Value.int .i64 s1c7), (Value.slice s1c8a s1c8n s1c8c)]⟩)]⟩ H R := FnW.of_code Zbwy (by kernel_rfl) (Eq.mp (Zcds c0b s1c0 s1c1 s1c2 s1c3 s1c4 s1c5 s1c6 s1c7 s1c8a s1c8n s1c8c H _) h)
def Zbfe : Plan := ⟨[], [], [], []⟩
theorem Zcby : Known Tryz.prog Zkx Tryz.f129 Zbfe (Zb Tryz.f129) := by refine ⟨Tryz.func129, ?_, ?_, ?_, ?_, ?_⟩ <;> kernel_rfl
def Zwz (c0b : Nat) (H : Heap) (R : Value -> Heap -> Prop) : Prop :=
 FnW Tryz.prog Zky ⟨[(Value.pointer (some ⟨c0b, 0, none⟩))]⟩ H fun x4v H1 =>
 x4v = (Value.tuple ⟨[]⟩) ∧
 Za H1 ⟨c0b, 12, none⟩ (Value.slice none 0 0) fun H2 =>
 R (Value.int .i64 151) H2
theorem Zcij (c0b : Nat) (H : Heap) (R : Value -> Heap -> Prop) : Zwz c0b H R = Zc Tryz.prog Zbfe (Zb Tryz.f129) (env0 [(Value.pointer (some ⟨c0b, 0, none⟩))]) H (RetW Tryz.prog Tryz.f129.results.toList R) := by kernel_rfl
theorem Zcit (c0b : Nat) {H : Heap} {R : Value -> Heap -> Prop} (h : Zwz c0b H fun v H1 => ∀ H2, Shut H H1 H2 -> R v H2) : FnW Tryz.prog Zkx ⟨[(Value.pointer (some ⟨c0b, 0, none⟩))]⟩ H R := FnW.of_code Zcby (by kernel_rfl) (Eq.mp (Zcij c0b H _) h)
def Zbhz : Plan := ⟨[], [], [], []⟩
theorem Zbvf : Known Tryz.prog Zjl Tryz.f130 Zbhz (Zb Tryz.f130) := by refine ⟨Tryz.func130, ?_, ?_, ?_, ?_, ?_⟩ <;> kernel_rfl
def Znt (c0b : Nat) (s1c0 : Int) (s1c1 : Int) (s1c2 : Int) (s1c3 : Int) (s1c4 : Int) (s1c5 : Int) (s1c6 : Int) (s1c7 : Int) (s1c8a : Option Addr) (s1c8n : Nat) (s1c8c : Nat) (H : Heap) (R : Value -> Heap -> Prop) : Prop :=
 NewW H (Obj.cells ⟨[(Value.int .i64 s1c0), (Value.int .i64 s1c1), (Value.int .u32 s1c2), (Value.int .u32 s1c3), (Value.int .i64 s1c4), (Value.int .i64 s1c5), (Value.int .i64 s1c6), (Value.int .i64 s1c7), (Value.slice s1c8a s1c8n s1c8c)]⟩ Zl) fun s3b H1 =>
 ∃ x7 : Int, H1.cell ⟨s3b, 2, none⟩ = some (Value.int .u32 x7) ∧
 FnW Tryz.prog Zcv ⟨[(Value.int .u32 x7), (Value.int .i64 1)]⟩ H1 fun x8v H2 =>
 ∃ x8 : Int, x8v = (Value.int .u32 x8) ∧
 FnW Tryz.prog Zqt ⟨[(Value.int .u32 x8), (Value.int .i64 4096)]⟩ H2 fun x9v H3 =>
 ∃ x9r0 : Option Addr, ∃ x9r1 : Int, x9v = (Value.tuple ⟨[(Value.pointer x9r0), (Value.int .i64 x9r1)]⟩) ∧
 Za H3 ⟨c0b, 5, none⟩ (Value.pointer x9r0) fun H4 =>
 ∃ x15c0 : Int, H4.cell ⟨s3b, 0, none⟩ = some (Value.int .i64 x15c0) ∧ ∃ x15c1 : Int, H4.cell ⟨s3b, 1, none⟩ = some (Value.int .i64 x15c1) ∧ ∃ x15c2 : Int, H4.cell ⟨s3b, 2, none⟩ = some (Value.int .u32 x15c2) ∧ ∃ x15c3 : Int, H4.cell ⟨s3b, 3, none⟩ = some (Value.int .u32 x15c3) ∧ ∃ x15c4 : Int, H4.cell ⟨s3b, 4, none⟩ = some (Value.int .i64 x15c4) ∧ ∃ x15c5 : Int, H4.cell ⟨s3b, 5, none⟩ = some (Value.int .i64 x15c5) ∧ ∃ x15c6 : Int, H4.cell ⟨s3b, 6, none⟩ = some (Value.int .i64 x15c6) ∧ ∃ x15c7 : Int, H4.cell ⟨s3b, 7, none⟩ = some (Value.int .i64 x15c7) ∧ ∃ (x15c8a : Option Addr) (x15c8n x15c8c : Nat), H4.cell ⟨s3b, 8, none⟩ = some (Value.slice x15c8a x15c8n x15c8c) ∧ FnW Tryz.prog Zpz ⟨[(Value.agg ⟨[(Value.int .i64 x15c0), (Value.int .i64 x15c1), (Value.int .u32 x15c2), (Value.int .u32 x15c3), (Value.int .i64 x15c4), (Value.int .i64 x15c5), (Value.int .i64 x15c6), (Value.int .i64 x15c7), (Value.slice x15c8a x15c8n x15c8c)]⟩)]⟩ H4 fun x16v H5 =>
 ∃ x16 : Int, x16v = (Value.int .i64 x16) ∧
 FnW Tryz.prog Zis ⟨[(Value.pointer (some ⟨c0b, 0, none⟩)), (Value.int .i64 x16)]⟩ H5 fun x17v H6 =>
 x17v = (Value.tuple ⟨[]⟩) ∧
 R (Value.tuple ⟨[]⟩) H6
theorem Zcfj (c0b : Nat) (s1c0 : Int) (s1c1 : Int) (s1c2 : Int) (s1c3 : Int) (s1c4 : Int) (s1c5 : Int) (s1c6 : Int) (s1c7 : Int) (s1c8a : Option Addr) (s1c8n : Nat) (s1c8c : Nat) (H : Heap) (R : Value -> Heap -> Prop) : Znt c0b s1c0 s1c1 s1c2 s1c3 s1c4 s1c5 s1c6 s1c7 s1c8a s1c8n s1c8c H R = Zc Tryz.prog Zbhz (Zb Tryz.f130) (env0 [(Value.pointer (some ⟨c0b, 0, none⟩)), (Value.agg ⟨[(Value.int .i64 s1c0), (Value.int .i64 s1c1), (Value.int .u32 s1c2), (Value.int .u32 s1c3), (Value.int .i64 s1c4), (Value.int .i64 s1c5), (Value.int .i64 s1c6), (Value.int .i64 s1c7), (Value.slice s1c8a s1c8n s1c8c)]⟩)]) H (RetW Tryz.prog Tryz.f130.results.toList R) := by kernel_rfl
theorem Zbdp (c0b : Nat) (s1c0 : Int) (s1c1 : Int) (s1c2 : Int) (s1c3 : Int) (s1c4 : Int) (s1c5 : Int) (s1c6 : Int) (s1c7 : Int) (s1c8a : Option Addr) (s1c8n : Nat) (s1c8c : Nat) {H : Heap} {R : Value -> Heap -> Prop} (h : Znt c0b s1c0 s1c1 s1c2 s1c3 s1c4 s1c5 s1c6 s1c7 s1c8a s1c8n s1c8c H fun v H1 => ∀ H2, Shut H H1 H2 -> R v H2) : FnW Tryz.prog Zjl ⟨[(Value.pointer (some ⟨c0b, 0, none⟩)), (Value.agg ⟨[(Value.int .i64 s1c0), (Value.int .i64 s1c1), (Value.int .u32 s1c2), (Value.int .u32 s1c3), (Value.int .i64 s1c4), (Value.int .i64 s1c5), (Value.int .i64 s1c6), (Value.int .i64 s1c7), (Value.slice s1c8a s1c8n s1c8c)]⟩)]⟩ H R := FnW.of_code Zbvf (by kernel_rfl) (Eq.mp (Zcfj c0b s1c0 s1c1 s1c2 s1c3 s1c4 s1c5 s1c6 s1c7 s1c8a s1c8n s1c8c H _) h)
def Zbmw : Plan := ⟨[], [], [], []⟩
theorem Zcgs : Known Tryz.prog Zmb Tryz.f131 Zbmw (Zb Tryz.f131) := by refine ⟨Tryz.func131, ?_, ?_, ?_, ?_, ?_⟩ <;> kernel_rfl
def Zwe (c0b : Nat) (s1c0 : Int) (s1c1 : Int) (s1c2 : Int) (s1c3 : Int) (s1c4 : Int) (s1c5 : Int) (s1c6 : Int) (s1c7 : Int) (s1c8a : Option Addr) (s1c8n : Nat) (s1c8c : Nat) (H : Heap) (R : Value -> Heap -> Prop) : Prop :=
 NewW H (Obj.cells ⟨[(Value.int .i64 s1c0), (Value.int .i64 s1c1), (Value.int .u32 s1c2), (Value.int .u32 s1c3), (Value.int .i64 s1c4), (Value.int .i64 s1c5), (Value.int .i64 s1c6), (Value.int .i64 s1c7), (Value.slice s1c8a s1c8n s1c8c)]⟩ Zl) fun s3b H1 =>
 Za H1 ⟨c0b, 0, none⟩ (Value.int .i64 3) fun H2 =>
 FnW Tryz.prog Ziy ⟨[(Value.pointer (some ⟨c0b, 0, none⟩))]⟩ H2 fun x8v H3 =>
 x8v = (Value.tuple ⟨[]⟩) ∧
 ∃ x12 : Option Addr, H3.cell ⟨c0b, 4, none⟩ = some (Value.pointer x12) ∧
 ∃ x16 : Int, H3.cell ⟨c0b, 10, none⟩ = some (Value.int .i64 x16) ∧
 ∃ x18 : Int, H3.cell ⟨s3b, 3, none⟩ = some (Value.int .u32 x18) ∧
 ∃ x20 : Int, H3.cell ⟨s3b, 5, none⟩ = some (Value.int .i64 x20) ∧
 FnW Tryz.prog Zhg ⟨[(Value.pointer x12), (Value.int .i64 x16), (Value.int .u32 x18), (Value.int .i64 x20)]⟩ H3 fun x21v H4 =>
 ∃ x21r0 : Int, ∃ x21r1 : Int, x21v = (Value.tuple ⟨[(Value.int .i64 x21r0), (Value.int .i64 x21r1)]⟩) ∧
 R (Value.tuple ⟨[]⟩) H4
theorem Zbzt (c0b : Nat) (s1c0 : Int) (s1c1 : Int) (s1c2 : Int) (s1c3 : Int) (s1c4 : Int) (s1c5 : Int) (s1c6 : Int) (s1c7 : Int) (s1c8a : Option Addr) (s1c8n : Nat) (s1c8c : Nat) (H : Heap) (R : Value -> Heap -> Prop) : Zwe c0b s1c0 s1c1 s1c2 s1c3 s1c4 s1c5 s1c6 s1c7 s1c8a s1c8n s1c8c H R = Zc Tryz.prog Zbmw (Zb Tryz.f131) (env0 [(Value.pointer (some ⟨c0b, 0, none⟩)), (Value.agg ⟨[(Value.int .i64 s1c0), (Value.int .i64 s1c1), (Value.int .u32 s1c2), (Value.int .u32 s1c3), (Value.int .i64 s1c4), (Value.int .i64 s1c5), (Value.int .i64 s1c6), (Value.int .i64 s1c7), (Value.slice s1c8a s1c8n s1c8c)]⟩)]) H (RetW Tryz.prog Tryz.f131.results.toList R) := by kernel_rfl
theorem Zbyw (c0b : Nat) (s1c0 : Int) (s1c1 : Int) (s1c2 : Int) (s1c3 : Int) (s1c4 : Int) (s1c5 : Int) (s1c6 : Int) (s1c7 : Int) (s1c8a : Option Addr) (s1c8n : Nat) (s1c8c : Nat) {H : Heap} {R : Value -> Heap -> Prop} (h : Zwe c0b s1c0 s1c1 s1c2 s1c3 s1c4 s1c5 s1c6 s1c7 s1c8a s1c8n s1c8c H fun v H1 => ∀ H2, Shut H H1 H2 -> R v H2) : FnW Tryz.prog Zmb ⟨[(Value.pointer (some ⟨c0b, 0, none⟩)), (Value.agg ⟨[(Value.int .i64 s1c0), (Value.int .i64 s1c1), (Value.int .u32 s1c2), (Value.int .u32 s1c3), (Value.int .i64 s1c4), (Value.int .i64 s1c5), (Value.int .i64 s1c6), (Value.int .i64 s1c7), (Value.slice s1c8a s1c8n s1c8c)]⟩)]⟩ H R := FnW.of_code Zcgs (by kernel_rfl) (Eq.mp (Zbzt c0b s1c0 s1c1 s1c2 s1c3 s1c4 s1c5 s1c6 s1c7 s1c8a s1c8n s1c8c H _) h)
def Zblz : Plan := ⟨[], [], [], []⟩
theorem Zbta : Known Tryz.prog Zrj Tryz.f132 Zblz (Zb Tryz.f132) := by refine ⟨Tryz.func132, ?_, ?_, ?_, ?_, ?_⟩ <;> kernel_rfl
def Zqx (next0 : Int) (size1 : Int) (from2 : Int) (n3 : Int) (x15 : Bool) (H2 : Heap) (R : Value -> Heap -> Prop) : Prop :=
 IfB x15
 (R (Value.tuple ⟨[(Value.bool ((from2 : Int) == next0)), (Value.int .i64 0)]⟩) H2)
 (IfB ((n3 : Int) == 0)
 (FnW Tryz.prog Zii ⟨[(Value.int .u32 from2), (Value.int .u32 next0), (Value.int .i64 size1)]⟩ H2 fun x31v H3 =>
 ∃ x31 : Bool, x31v = (Value.bool x31) ∧
 R (Value.tuple ⟨[(Value.bool x31), (Value.int .i64 0)]⟩) H3)
 (FnW Tryz.prog Zii ⟨[(Value.int .u32 from2), (Value.int .u32 next0), (Value.int .i64 size1)]⟩ H2 fun x35v H4 =>
 ∃ x35 : Bool, x35v = (Value.bool x35) ∧
 IfB x35
 (R (Value.tuple ⟨[(Value.bool true), (Value.int .i64 0)]⟩) H4)
 (FnW Tryz.prog Zcv ⟨[(Value.int .u32 from2), (Value.int .i64 (IntKind.wrap .i64 (n3 - 1)))]⟩ H4 fun x40v H5 =>
 ∃ x40 : Int, x40v = (Value.int .u32 x40) ∧
 FnW Tryz.prog Zii ⟨[(Value.int .u32 x40), (Value.int .u32 next0), (Value.int .i64 size1)]⟩ H5 fun x43v H6 =>
 ∃ x43 : Bool, x43v = (Value.bool x43) ∧
 R (Value.tuple ⟨[(Value.bool x43), (Value.int .i64 0)]⟩) H6)))
def Zys (next0 : Int) (size1 : Int) (from2 : Int) (n3 : Int) (H : Heap) (R : Value -> Heap -> Prop) : Prop :=
 FnW Tryz.prog Zlj ⟨[(Value.int .i64 size1), (Value.int .i64 n3)]⟩ H fun x13v H1 =>
 ∃ x13 : Bool, x13v = (Value.bool x13) ∧
 IfB (!x13)
 (R (Value.tuple ⟨[(Value.bool false), (Value.int .i64 2)]⟩) H1)
 (IfB ((n3 : Int) == 0)
 (Zqx next0 size1 from2 n3 ((size1 : Int) == 0) H1 R)
 (Zqx next0 size1 from2 n3 false H1 R))
theorem Zbys (next0 : Int) (size1 : Int) (from2 : Int) (n3 : Int) (H : Heap) (R : Value -> Heap -> Prop) : Zys next0 size1 from2 n3 H R = Zc Tryz.prog Zblz (Zb Tryz.f132) (env0 [(Value.int .u32 next0), (Value.int .i64 size1), (Value.int .u32 from2), (Value.int .i64 n3)]) H (RetW Tryz.prog Tryz.f132.results.toList R) := by kernel_rfl
theorem Zcdx (next0 : Int) (size1 : Int) (from2 : Int) (n3 : Int) {H : Heap} {R : Value -> Heap -> Prop} (h : Zys next0 size1 from2 n3 H fun v H1 => ∀ H2, Shut H H1 H2 -> R v H2) : FnW Tryz.prog Zrj ⟨[(Value.int .u32 next0), (Value.int .i64 size1), (Value.int .u32 from2), (Value.int .i64 n3)]⟩ H R := FnW.of_code Zbta (by kernel_rfl) (Eq.mp (Zbys next0 size1 from2 n3 H _) h)
def Zbfu : Plan := ⟨[], [], [], []⟩
theorem Zbwz : Known Tryz.prog Zgl Tryz.f133 Zbfu (Zb Tryz.f133) := by refine ⟨Tryz.func133, ?_, ?_, ?_, ?_, ?_⟩ <;> kernel_rfl
def Zbaf (c0b : Nat) (H : Heap) (R : Value -> Heap -> Prop) : Prop :=
 ∃ x7 : Option Addr, H.cell ⟨c0b, 5, none⟩ = some (Value.pointer x7) ∧
 FnW Tryz.prog Zgx ⟨[(Value.pointer x7)]⟩ H fun x8v H1 =>
 ∃ x8 : Int, x8v = (Value.int .u32 x8) ∧
 ∃ x13 : Bool, H1.cell ⟨c0b, 9, none⟩ = some (Value.bool x13) ∧
 IfB x13
 (R (Value.int .u32 (IntKind.wrap .u32 (x8 + 1))) H1)
 (R (Value.int .u32 x8) H1)
theorem Zbya (c0b : Nat) (H : Heap) (R : Value -> Heap -> Prop) : Zbaf c0b H R = Zc Tryz.prog Zbfu (Zb Tryz.f133) (env0 [(Value.pointer (some ⟨c0b, 0, none⟩))]) H (RetW Tryz.prog Tryz.f133.results.toList R) := by kernel_rfl
theorem Zbnt (c0b : Nat) {H : Heap} {R : Value -> Heap -> Prop} (h : Zbaf c0b H fun v H1 => ∀ H2, Shut H H1 H2 -> R v H2) : FnW Tryz.prog Zgl ⟨[(Value.pointer (some ⟨c0b, 0, none⟩))]⟩ H R := FnW.of_code Zbwz (by kernel_rfl) (Eq.mp (Zbya c0b H _) h)
def Zbdg : Plan := ⟨[], [], [(3, 3)], []⟩
theorem Zcfq : Known Tryz.prog Zhx Tryz.f134 Zbdg (Zb Tryz.f134) := by refine ⟨Tryz.func134, ?_, ?_, ?_, ?_, ?_⟩ <;> kernel_rfl
def Zyl (s1b : Nat) (n3_1 : Int) (H5 : Heap) (R : Value -> Heap -> Prop) : Prop :=
 IfB (decide (((IntKind.wrap .i64 ((IntKind.wrap .i64 (0 + 1)) + 1)) : Int) < 2))
 ((0 : Int) <= (IntKind.wrap .i64 ((IntKind.wrap .i64 (0 + 1)) + 1)) ∧ ((IntKind.wrap .i64 ((IntKind.wrap .i64 (0 + 1)) + 1)) : Int) < 2 ∧
 False)
 (R (Value.int .i64 n3_1) H5)
def Zri (s1b : Nat) (n3 : Int) (H3 : Heap) (R : Value -> Heap -> Prop) : Prop :=
 IfB (decide (((IntKind.wrap .i64 (0 + 1)) : Int) < 2))
 ((0 : Int) <= (IntKind.wrap .i64 (0 + 1)) ∧ ((IntKind.wrap .i64 (0 + 1)) : Int) < 2 ∧
 ∃ x13c0_1 : Int, H3.cell ⟨s1b, 0, none⟩ = some (Value.int .i64 x13c0_1) ∧ ∃ x13c1_1 : Int, H3.cell ⟨s1b, 1, none⟩ = some (Value.int .i64 x13c1_1) ∧ ∃ x13c2_1 : Int, H3.cell ⟨s1b, 2, none⟩ = some (Value.int .u32 x13c2_1) ∧ ∃ x13c3_1 : Int, H3.cell ⟨s1b, 3, none⟩ = some (Value.int .u32 x13c3_1) ∧ ∃ x13c4_1 : Int, H3.cell ⟨s1b, 4, none⟩ = some (Value.int .i64 x13c4_1) ∧ ∃ x13c5_1 : Int, H3.cell ⟨s1b, 5, none⟩ = some (Value.int .i64 x13c5_1) ∧ ∃ x13c6_1 : Int, H3.cell ⟨s1b, 6, none⟩ = some (Value.int .i64 x13c6_1) ∧ ∃ x13c7_1 : Int, H3.cell ⟨s1b, 7, none⟩ = some (Value.int .i64 x13c7_1) ∧ ∃ (x13c8a_1 : Option Addr) (x13c8n_1 x13c8c_1 : Nat), H3.cell ⟨s1b, 8, none⟩ = some (Value.slice x13c8a_1 x13c8n_1 x13c8c_1) ∧ FnW Tryz.prog Zhn ⟨[(Value.agg ⟨[(Value.int .i64 x13c0_1), (Value.int .i64 x13c1_1), (Value.int .u32 x13c2_1), (Value.int .u32 x13c3_1), (Value.int .i64 x13c4_1), (Value.int .i64 x13c5_1), (Value.int .i64 x13c6_1), (Value.int .i64 x13c7_1), (Value.slice x13c8a_1 x13c8n_1 x13c8c_1)]⟩), (Value.int .i64 0)]⟩ H3 fun x15v_1 H4 =>
 ∃ x15_1 : Bool, x15v_1 = (Value.bool x15_1) ∧
 IfB x15_1
 (Zyl s1b (IntKind.wrap .i64 (n3 + 1)) H4 R)
 (Zyl s1b n3 H4 R))
 (R (Value.int .i64 n3) H3)
def Zbai (s0c0 : Int) (s0c1 : Int) (s0c2 : Int) (s0c3 : Int) (s0c4 : Int) (s0c5 : Int) (s0c6 : Int) (s0c7 : Int) (s0c8a : Option Addr) (s0c8n : Nat) (s0c8c : Nat) (H : Heap) (R : Value -> Heap -> Prop) : Prop :=
 NewW H (Obj.cells ⟨[(Value.int .i64 s0c0), (Value.int .i64 s0c1), (Value.int .u32 s0c2), (Value.int .u32 s0c3), (Value.int .i64 s0c4), (Value.int .i64 s0c5), (Value.int .i64 s0c6), (Value.int .i64 s0c7), (Value.slice s0c8a s0c8n s0c8c)]⟩ Zl) fun s1b H1 =>
 ∃ (x7a : Option Addr) (x7n x7c : Nat), H1.cell ⟨s1b, 8, none⟩ = some (Value.slice x7a x7n x7c) ∧
 IfB (decide ((0 : Int) < 2))
 ((0 : Int) <= 0 ∧ (0 : Int) < 2 ∧
 ∃ x13c0 : Int, H1.cell ⟨s1b, 0, none⟩ = some (Value.int .i64 x13c0) ∧ ∃ x13c1 : Int, H1.cell ⟨s1b, 1, none⟩ = some (Value.int .i64 x13c1) ∧ ∃ x13c2 : Int, H1.cell ⟨s1b, 2, none⟩ = some (Value.int .u32 x13c2) ∧ ∃ x13c3 : Int, H1.cell ⟨s1b, 3, none⟩ = some (Value.int .u32 x13c3) ∧ ∃ x13c4 : Int, H1.cell ⟨s1b, 4, none⟩ = some (Value.int .i64 x13c4) ∧ ∃ x13c5 : Int, H1.cell ⟨s1b, 5, none⟩ = some (Value.int .i64 x13c5) ∧ ∃ x13c6 : Int, H1.cell ⟨s1b, 6, none⟩ = some (Value.int .i64 x13c6) ∧ ∃ x13c7 : Int, H1.cell ⟨s1b, 7, none⟩ = some (Value.int .i64 x13c7) ∧ ∃ (x13c8a : Option Addr) (x13c8n x13c8c : Nat), H1.cell ⟨s1b, 8, none⟩ = some (Value.slice x13c8a x13c8n x13c8c) ∧ FnW Tryz.prog Zhn ⟨[(Value.agg ⟨[(Value.int .i64 x13c0), (Value.int .i64 x13c1), (Value.int .u32 x13c2), (Value.int .u32 x13c3), (Value.int .i64 x13c4), (Value.int .i64 x13c5), (Value.int .i64 x13c6), (Value.int .i64 x13c7), (Value.slice x13c8a x13c8n x13c8c)]⟩), (Value.int .i64 1)]⟩ H1 fun x15v H2 =>
 ∃ x15 : Bool, x15v = (Value.bool x15) ∧
 IfB x15
 (Zri s1b (IntKind.wrap .i64 ((x7n : Int) + 1)) H2 R)
 (Zri s1b (x7n : Int) H2 R))
 (R (Value.int .i64 (x7n : Int)) H1)
theorem Zbuh (s0c0 : Int) (s0c1 : Int) (s0c2 : Int) (s0c3 : Int) (s0c4 : Int) (s0c5 : Int) (s0c6 : Int) (s0c7 : Int) (s0c8a : Option Addr) (s0c8n : Nat) (s0c8c : Nat) (H : Heap) (R : Value -> Heap -> Prop) : Zbai s0c0 s0c1 s0c2 s0c3 s0c4 s0c5 s0c6 s0c7 s0c8a s0c8n s0c8c H R = Zc Tryz.prog Zbdg (Zb Tryz.f134) (env0 [(Value.agg ⟨[(Value.int .i64 s0c0), (Value.int .i64 s0c1), (Value.int .u32 s0c2), (Value.int .u32 s0c3), (Value.int .i64 s0c4), (Value.int .i64 s0c5), (Value.int .i64 s0c6), (Value.int .i64 s0c7), (Value.slice s0c8a s0c8n s0c8c)]⟩)]) H (RetW Tryz.prog Tryz.f134.results.toList R) := by kernel_rfl
theorem Zbzm (s0c0 : Int) (s0c1 : Int) (s0c2 : Int) (s0c3 : Int) (s0c4 : Int) (s0c5 : Int) (s0c6 : Int) (s0c7 : Int) (s0c8a : Option Addr) (s0c8n : Nat) (s0c8c : Nat) {H : Heap} {R : Value -> Heap -> Prop} (h : Zbai s0c0 s0c1 s0c2 s0c3 s0c4 s0c5 s0c6 s0c7 s0c8a s0c8n s0c8c H fun v H1 => ∀ H2, Shut H H1 H2 -> R v H2) : FnW Tryz.prog Zhx ⟨[(Value.agg ⟨[(Value.int .i64 s0c0), (Value.int .i64 s0c1), (Value.int .u32 s0c2), (Value.int .u32 s0c3), (Value.int .i64 s0c4), (Value.int .i64 s0c5), (Value.int .i64 s0c6), (Value.int .i64 s0c7), (Value.slice s0c8a s0c8n s0c8c)]⟩)]⟩ H R := FnW.of_code Zcfq (by kernel_rfl) (Eq.mp (Zbuh s0c0 s0c1 s0c2 s0c3 s0c4 s0c5 s0c6 s0c7 s0c8a s0c8n s0c8c H _) h)
def Zblo : Plan := ⟨[(2, [0, 1, 2, 3, 4, 5, 6, 7, 8], [24]), (6, [0, 1, 2, 3, 4, 5, 6, 7, 8, 9, 10, 11, 12], [46]), (7, [0, 1, 2, 3, 4, 5, 6, 7, 8, 9, 10, 11, 13, 14, 12, 15, 16, 17, 18, 19], [55, 59, 66])], [], [], []⟩
theorem Zbyr : Known Tryz.prog Zpo Tryz.f135 Zblo (Zb Tryz.f135) := by refine ⟨Tryz.func135, ?_, ?_, ?_, ?_, ?_⟩ <;> kernel_rfl
def Zbiu (c0b : Nat) (x85 : Int) (H5 : Heap) (R : Value -> Heap -> Prop) : Prop :=
 IfB ((x85 : Int) == 0)
 (∃ x90 : Option Addr, H5.cell ⟨c0b, 4, none⟩ = some (Value.pointer x90) ∧
 NilP x90 fun x91p =>
 ∃ x93 : Option Addr, H5.cell x91p = some (Value.pointer x93) ∧
 FnW Tryz.prog Zig ⟨[(Value.pointer x93)]⟩ H5 fun x94v H6 =>
 x94v = (Value.tuple ⟨[]⟩) ∧
 R (Value.bool true) H6)
 (R (Value.bool true) H5)
def Zmk (c0b : Nat) (s3b : Nat) (H4 : Heap) (R : Value -> Heap -> Prop) : Prop :=
 ∃ x85 : Int, H4.cell ⟨s3b, 5, none⟩ = some (Value.int .i64 x85) ∧
 Zbiu c0b x85 H4 R
def Zrb (c0b : Nat) (s3b : Nat) (H13 : Heap) (R : Value -> Heap -> Prop) : Prop :=
 FnW Tryz.prog Zoi ⟨[(Value.pointer (some ⟨c0b, 0, none⟩))]⟩ H13 fun x83v H14 =>
 x83v = (Value.tuple ⟨[]⟩) ∧
 Zmk c0b s3b H14 R
def Zrg (c0b : Nat) (s3b : Nat) (x79 : Bool) (H11 : Heap) (R : Value -> Heap -> Prop) : Prop :=
 IfB x79
 (FnW Tryz.prog Ziy ⟨[(Value.pointer (some ⟨c0b, 0, none⟩))]⟩ H11 fun x81v H12 =>
 x81v = (Value.tuple ⟨[]⟩) ∧
 Zrb c0b s3b H12 R)
 (Zrb c0b s3b H11 R)
def Zij (c0b : Nat) (s3b : Nat) (x38 : Bool) (H8 : Heap) (R : Value -> Heap -> Prop) : Prop :=
 IfB x38
 (∃ bs : List Nat, (∀ b ∈ bs, ∃ o, H8 b = some o) ∧
 c0b ∈ bs ∧ ∃ x55 : Option Addr, H8.cell ⟨c0b, 4, none⟩ = some (Value.pointer x55) ∧
 c0b ∈ bs ∧ ∃ x59 : Int, H8.cell ⟨c0b, 10, none⟩ = some (Value.int .i64 x59) ∧
 ∃ x63 : Option Addr, H8.cell ⟨c0b, 4, none⟩ = some (Value.pointer x63) ∧
 s3b ∈ bs ∧ ∃ x66 : Int, H8.cell ⟨s3b, 5, none⟩ = some (Value.int .i64 x66) ∧
 FnW Tryz.prog Zhr ⟨[(Value.pointer x63)]⟩ H8 fun x64v H9 =>
 ∃ x64 : Int, x64v = (Value.int .u32 x64) ∧
 Ze bs H8 H9 ∧ FnW Tryz.prog Zhg ⟨[(Value.pointer x55), (Value.int .i64 x59), (Value.int .u32 x64), (Value.int .i64 x66)]⟩ H9 fun x67v H10 =>
 ∃ x67r0 : Int, ∃ x67r1 : Int, x67v = (Value.tuple ⟨[(Value.int .i64 x67r0), (Value.int .i64 x67r1)]⟩) ∧
 Ze bs H8 H10 ∧ IfB (decide ((x67r0 : Int) > 0))
 (Zrg c0b s3b true H10 R)
 (∃ x77 : Bool, H10.cell ⟨c0b, 8, none⟩ = some (Value.bool x77) ∧
 Zrg c0b s3b (!x77) H10 R))
 (∃ bs : List Nat, (∀ b ∈ bs, ∃ o, H8 b = some o) ∧
 s3b ∈ bs ∧ ∃ x24 : Int, H8.cell ⟨s3b, 3, none⟩ = some (Value.int .u32 x24) ∧
 ∃ x28 : Option Addr, H8.cell ⟨c0b, 4, none⟩ = some (Value.pointer x28) ∧
 FnW Tryz.prog Znk ⟨[(Value.pointer x28)]⟩ H8 fun x29v H15 =>
 ∃ x29 : Int, x29v = (Value.int .u32 x29) ∧
 Ze bs H8 H15 ∧ FnW Tryz.prog Zqu ⟨[(Value.int .u32 x24), (Value.int .u32 x29)]⟩ H15 fun x30v H16 =>
 ∃ x30 : Bool, x30v = (Value.bool x30) ∧
 R (Value.bool x30) H16)
def Zyx (c0b : Nat) (s1c0 : Int) (s1c1 : Int) (s1c2 : Int) (s1c3 : Int) (s1c4 : Int) (s1c5 : Int) (s1c6 : Int) (s1c7 : Int) (s1c8a : Option Addr) (s1c8n : Nat) (s1c8c : Nat) (H : Heap) (R : Value -> Heap -> Prop) : Prop :=
 NewW H (Obj.cells ⟨[(Value.int .i64 s1c0), (Value.int .i64 s1c1), (Value.int .u32 s1c2), (Value.int .u32 s1c3), (Value.int .i64 s1c4), (Value.int .i64 s1c5), (Value.int .i64 s1c6), (Value.int .i64 s1c7), (Value.slice s1c8a s1c8n s1c8c)]⟩ Zl) fun s3b H1 =>
 ∃ x11 : Option Addr, H1.cell ⟨c0b, 4, none⟩ = some (Value.pointer x11) ∧
 ∃ x15 : Int, H1.cell ⟨c0b, 10, none⟩ = some (Value.int .i64 x15) ∧
 ∃ x17 : Int, H1.cell ⟨s3b, 3, none⟩ = some (Value.int .u32 x17) ∧
 ∃ x19 : Int, H1.cell ⟨s3b, 5, none⟩ = some (Value.int .i64 x19) ∧
 FnW Tryz.prog Zhg ⟨[(Value.pointer x11), (Value.int .i64 x15), (Value.int .u32 x17), (Value.int .i64 x19)]⟩ H1 fun x20v H2 =>
 ∃ x20r0 : Int, ∃ x20r1 : Int, x20v = (Value.tuple ⟨[(Value.int .i64 x20r0), (Value.int .i64 x20r1)]⟩) ∧
 IfB ((x20r1 : Int) == 0)
 (IfB (decide ((x20r0 : Int) > 0))
 (FnW Tryz.prog Ziy ⟨[(Value.pointer (some ⟨c0b, 0, none⟩))]⟩ H2 fun x37v H3 =>
 x37v = (Value.tuple ⟨[]⟩) ∧
 Zmk c0b s3b H3 R)
 (Zmk c0b s3b H2 R))
 (∃ bs : List Nat, (∀ b ∈ bs, ∃ o, H2 b = some o) ∧
 ∃ x43 : Bool, H2.cell ⟨c0b, 7, none⟩ = some (Value.bool x43) ∧
 IfB x43
 (s3b ∈ bs ∧ ∃ x46 : Int, H2.cell ⟨s3b, 3, none⟩ = some (Value.int .u32 x46) ∧
 FnW Tryz.prog Zlt ⟨[(Value.pointer (some ⟨c0b, 0, none⟩))]⟩ H2 fun x48v H7 =>
 ∃ x48 : Int, x48v = (Value.int .u32 x48) ∧
 Ze bs H2 H7 ∧ Zij c0b s3b ((x46 : Int) == x48) H7 R)
 (Zij c0b s3b false H2 R))
theorem Zbsj (c0b : Nat) (s1c0 : Int) (s1c1 : Int) (s1c2 : Int) (s1c3 : Int) (s1c4 : Int) (s1c5 : Int) (s1c6 : Int) (s1c7 : Int) (s1c8a : Option Addr) (s1c8n : Nat) (s1c8c : Nat) (H : Heap) (R : Value -> Heap -> Prop) : Zyx c0b s1c0 s1c1 s1c2 s1c3 s1c4 s1c5 s1c6 s1c7 s1c8a s1c8n s1c8c H R = Zc Tryz.prog Zblo (Zb Tryz.f135) (env0 [(Value.pointer (some ⟨c0b, 0, none⟩)), (Value.agg ⟨[(Value.int .i64 s1c0), (Value.int .i64 s1c1), (Value.int .u32 s1c2), (Value.int .u32 s1c3), (Value.int .i64 s1c4), (Value.int .i64 s1c5), (Value.int .i64 s1c6), (Value.int .i64 s1c7), (Value.slice s1c8a s1c8n s1c8c)]⟩)]) H (RetW Tryz.prog Tryz.f135.results.toList R) := by kernel_rfl
theorem Zbyo (c0b : Nat) (s1c0 : Int) (s1c1 : Int) (s1c2 : Int) (s1c3 : Int) (s1c4 : Int) (s1c5 : Int) (s1c6 : Int) (s1c7 : Int) (s1c8a : Option Addr) (s1c8n : Nat) (s1c8c : Nat) {H : Heap} {R : Value -> Heap -> Prop} (h : Zyx c0b s1c0 s1c1 s1c2 s1c3 s1c4 s1c5 s1c6 s1c7 s1c8a s1c8n s1c8c H fun v H1 => ∀ H2, Shut H H1 H2 -> R v H2) : FnW Tryz.prog Zpo ⟨[(Value.pointer (some ⟨c0b, 0, none⟩)), (Value.agg ⟨[(Value.int .i64 s1c0), (Value.int .i64 s1c1), (Value.int .u32 s1c2), (Value.int .u32 s1c3), (Value.int .i64 s1c4), (Value.int .i64 s1c5), (Value.int .i64 s1c6), (Value.int .i64 s1c7), (Value.slice s1c8a s1c8n s1c8c)]⟩)]⟩ H R := FnW.of_code Zbyr (by kernel_rfl) (Eq.mp (Zbsj c0b s1c0 s1c1 s1c2 s1c3 s1c4 s1c5 s1c6 s1c7 s1c8a s1c8n s1c8c H _) h)
def Zbbj : Plan := ⟨[(6, [0, 1, 2, 3, 4, 5, 6, 7, 8, 10, 11, 12, 13, 9, 14, 15, 16], [34])], [], [], []⟩
theorem Zbsc : Known Tryz.prog Zpj Tryz.f136 Zbbj (Zb Tryz.f136) := by refine ⟨Tryz.func136, ?_, ?_, ?_, ?_, ?_⟩ <;> kernel_rfl
def Zpw (c0b : Nat) (x37 : Bool) (H6 : Heap) (R : Value -> Heap -> Prop) : Prop :=
 IfB x37
 (R (Value.tuple ⟨[]⟩) H6)
 (Za H6 ⟨c0b, 9, none⟩ (Value.bool true) fun H7 =>
 ∃ x45 : Int, H7.cell ⟨c0b, 0, none⟩ = some (Value.int .i64 x45) ∧
 IfB ((x45 : Int) == 3)
 (Za H7 ⟨c0b, 0, none⟩ (Value.int .i64 6) fun H8 =>
 R (Value.tuple ⟨[]⟩) H8)
 (IfB ((x45 : Int) == 4)
 (Za H7 ⟨c0b, 0, none⟩ (Value.int .i64 7) fun H9 =>
 R (Value.tuple ⟨[]⟩) H9)
 (IfB ((x45 : Int) == 5)
 (FnW Tryz.prog Zlf ⟨[(Value.pointer (some ⟨c0b, 0, none⟩))]⟩ H7 fun x59v H10 =>
 x59v = (Value.tuple ⟨[]⟩) ∧
 R (Value.tuple ⟨[]⟩) H10)
 (R (Value.tuple ⟨[]⟩) H7))))
def Zbdo (c0b : Nat) (s3b : Nat) (H3 : Heap) (R : Value -> Heap -> Prop) : Prop :=
 ∃ x15 : Option Addr, H3.cell ⟨c0b, 5, none⟩ = some (Value.pointer x15) ∧
 ∃ x17 : Int, H3.cell ⟨s3b, 2, none⟩ = some (Value.int .u32 x17) ∧
 ∃ (x19a : Option Addr) (x19n x19c : Nat), H3.cell ⟨s3b, 8, none⟩ = some (Value.slice x19a x19n x19c) ∧
 FnW Tryz.prog Zng ⟨[(Value.pointer x15), (Value.int .u32 x17), (Value.slice x19a x19n x19c)]⟩ H3 fun x20v H4 =>
 ∃ x20r0 : Int, ∃ x20r1 : Int, x20v = (Value.tuple ⟨[(Value.int .i64 x20r0), (Value.int .i64 x20r1)]⟩) ∧
 ∃ bs : List Nat, (∀ b ∈ bs, ∃ o, H4 b = some o) ∧
 ∃ x21c0 : Int, H4.cell ⟨s3b, 0, none⟩ = some (Value.int .i64 x21c0) ∧ ∃ x21c1 : Int, H4.cell ⟨s3b, 1, none⟩ = some (Value.int .i64 x21c1) ∧ ∃ x21c2 : Int, H4.cell ⟨s3b, 2, none⟩ = some (Value.int .u32 x21c2) ∧ ∃ x21c3 : Int, H4.cell ⟨s3b, 3, none⟩ = some (Value.int .u32 x21c3) ∧ ∃ x21c4 : Int, H4.cell ⟨s3b, 4, none⟩ = some (Value.int .i64 x21c4) ∧ ∃ x21c5 : Int, H4.cell ⟨s3b, 5, none⟩ = some (Value.int .i64 x21c5) ∧ ∃ x21c6 : Int, H4.cell ⟨s3b, 6, none⟩ = some (Value.int .i64 x21c6) ∧ ∃ x21c7 : Int, H4.cell ⟨s3b, 7, none⟩ = some (Value.int .i64 x21c7) ∧ ∃ (x21c8a : Option Addr) (x21c8n x21c8c : Nat), H4.cell ⟨s3b, 8, none⟩ = some (Value.slice x21c8a x21c8n x21c8c) ∧ FnW Tryz.prog Zby ⟨[(Value.agg ⟨[(Value.int .i64 x21c0), (Value.int .i64 x21c1), (Value.int .u32 x21c2), (Value.int .u32 x21c3), (Value.int .i64 x21c4), (Value.int .i64 x21c5), (Value.int .i64 x21c6), (Value.int .i64 x21c7), (Value.slice x21c8a x21c8n x21c8c)]⟩), (Value.int .i64 1)]⟩ H4 fun x22v H5 =>
 ∃ x22 : Bool, x22v = (Value.bool x22) ∧
 Ze bs H4 H5 ∧ IfB (!x22)
 (Zpw c0b true H5 R)
 (∃ x26 : Int, H5.cell ⟨s3b, 2, none⟩ = some (Value.int .u32 x26) ∧
 ∃ (x28a : Option Addr) (x28n x28c : Nat), H5.cell ⟨s3b, 8, none⟩ = some (Value.slice x28a x28n x28c) ∧
 c0b ∈ bs ∧ ∃ x34 : Option Addr, H4.cell ⟨c0b, 5, none⟩ = some (Value.pointer x34) ∧
 FnW Tryz.prog Zcv ⟨[(Value.int .u32 x26), (Value.int .i64 (x28n : Int))]⟩ H5 fun x30v H11 =>
 ∃ x30 : Int, x30v = (Value.int .u32 x30) ∧
 Ze bs H4 H11 ∧ FnW Tryz.prog Zgx ⟨[(Value.pointer x34)]⟩ H11 fun x35v H12 =>
 ∃ x35 : Int, x35v = (Value.int .u32 x35) ∧
 Zpw c0b ((x30 : Int) != x35) H12 R)
def Zid (c0b : Nat) (s3b : Nat) (x8 : Bool) (H2 : Heap) (R : Value -> Heap -> Prop) : Prop :=
 IfB x8
 (Zbdo c0b s3b H2 R)
 (R (Value.tuple ⟨[]⟩) H2)
def Zun (c0b : Nat) (s1c0 : Int) (s1c1 : Int) (s1c2 : Int) (s1c3 : Int) (s1c4 : Int) (s1c5 : Int) (s1c6 : Int) (s1c7 : Int) (s1c8a : Option Addr) (s1c8n : Nat) (s1c8c : Nat) (H : Heap) (R : Value -> Heap -> Prop) : Prop :=
 NewW H (Obj.cells ⟨[(Value.int .i64 s1c0), (Value.int .i64 s1c1), (Value.int .u32 s1c2), (Value.int .u32 s1c3), (Value.int .i64 s1c4), (Value.int .i64 s1c5), (Value.int .i64 s1c6), (Value.int .i64 s1c7), (Value.slice s1c8a s1c8n s1c8c)]⟩ Zl) fun s3b H1 =>
 ∃ x7 : Int, H1.cell ⟨c0b, 0, none⟩ = some (Value.int .i64 x7) ∧
 IfB ((x7 : Int) == 3)
 (Zid c0b s3b ((x7 : Int) == 3) H1 R)
 (IfB ((x7 : Int) == 4)
 (Zid c0b s3b ((x7 : Int) == 4) H1 R)
 (Zid c0b s3b ((x7 : Int) == 5) H1 R))
theorem Zcbi (c0b : Nat) (s1c0 : Int) (s1c1 : Int) (s1c2 : Int) (s1c3 : Int) (s1c4 : Int) (s1c5 : Int) (s1c6 : Int) (s1c7 : Int) (s1c8a : Option Addr) (s1c8n : Nat) (s1c8c : Nat) (H : Heap) (R : Value -> Heap -> Prop) : Zun c0b s1c0 s1c1 s1c2 s1c3 s1c4 s1c5 s1c6 s1c7 s1c8a s1c8n s1c8c H R = Zc Tryz.prog Zbbj (Zb Tryz.f136) (env0 [(Value.pointer (some ⟨c0b, 0, none⟩)), (Value.agg ⟨[(Value.int .i64 s1c0), (Value.int .i64 s1c1), (Value.int .u32 s1c2), (Value.int .u32 s1c3), (Value.int .i64 s1c4), (Value.int .i64 s1c5), (Value.int .i64 s1c6), (Value.int .i64 s1c7), (Value.slice s1c8a s1c8n s1c8c)]⟩)]) H (RetW Tryz.prog Tryz.f136.results.toList R) := by kernel_rfl
theorem Zbzp (c0b : Nat) (s1c0 : Int) (s1c1 : Int) (s1c2 : Int) (s1c3 : Int) (s1c4 : Int) (s1c5 : Int) (s1c6 : Int) (s1c7 : Int) (s1c8a : Option Addr) (s1c8n : Nat) (s1c8c : Nat) {H : Heap} {R : Value -> Heap -> Prop} (h : Zun c0b s1c0 s1c1 s1c2 s1c3 s1c4 s1c5 s1c6 s1c7 s1c8a s1c8n s1c8c H fun v H1 => ∀ H2, Shut H H1 H2 -> R v H2) : FnW Tryz.prog Zpj ⟨[(Value.pointer (some ⟨c0b, 0, none⟩)), (Value.agg ⟨[(Value.int .i64 s1c0), (Value.int .i64 s1c1), (Value.int .u32 s1c2), (Value.int .u32 s1c3), (Value.int .i64 s1c4), (Value.int .i64 s1c5), (Value.int .i64 s1c6), (Value.int .i64 s1c7), (Value.slice s1c8a s1c8n s1c8c)]⟩)]⟩ H R := FnW.of_code Zbsc (by kernel_rfl) (Eq.mp (Zcbi c0b s1c0 s1c1 s1c2 s1c3 s1c4 s1c5 s1c6 s1c7 s1c8a s1c8n s1c8c H _) h)
def Zbec : Plan := ⟨[], [], [], []⟩
theorem Zcgm : Known Tryz.prog Zhn Tryz.f137 Zbec (Zb Tryz.f137) := by refine ⟨Tryz.func137, ?_, ?_, ?_, ?_, ?_⟩ <;> kernel_rfl
def Zvm (s0c0 : Int) (s0c1 : Int) (s0c2 : Int) (s0c3 : Int) (s0c4 : Int) (s0c5 : Int) (s0c6 : Int) (s0c7 : Int) (s0c8a : Option Addr) (s0c8n : Nat) (s0c8c : Nat) (flag1 : Int) (H : Heap) (R : Value -> Heap -> Prop) : Prop :=
 NewW H (Obj.cells ⟨[(Value.int .i64 s0c0), (Value.int .i64 s0c1), (Value.int .u32 s0c2), (Value.int .u32 s0c3), (Value.int .i64 s0c4), (Value.int .i64 s0c5), (Value.int .i64 s0c6), (Value.int .i64 s0c7), (Value.slice s0c8a s0c8n s0c8c)]⟩ Zl) fun s2b H1 =>
 ∃ x6 : Int, H1.cell ⟨s2b, 4, none⟩ = some (Value.int .i64 x6) ∧
 IfB (decide ((x6 : Int) ≥ 0))
 (∃ x10 : Int, H1.cell ⟨s2b, 4, none⟩ = some (Value.int .i64 x10) ∧
 (0 : Int) <= flag1 ∧
 R (Value.bool (((Zz .i64 (Int.fdiv x10 (2 ^ (min (flag1 : Int).toNat (IntKind.bits .i64)))) 1) : Int) == 1)) H1)
 (R (Value.bool false) H1)
theorem Zcjz (s0c0 : Int) (s0c1 : Int) (s0c2 : Int) (s0c3 : Int) (s0c4 : Int) (s0c5 : Int) (s0c6 : Int) (s0c7 : Int) (s0c8a : Option Addr) (s0c8n : Nat) (s0c8c : Nat) (flag1 : Int) (H : Heap) (R : Value -> Heap -> Prop) : Zvm s0c0 s0c1 s0c2 s0c3 s0c4 s0c5 s0c6 s0c7 s0c8a s0c8n s0c8c flag1 H R = Zc Tryz.prog Zbec (Zb Tryz.f137) (env0 [(Value.agg ⟨[(Value.int .i64 s0c0), (Value.int .i64 s0c1), (Value.int .u32 s0c2), (Value.int .u32 s0c3), (Value.int .i64 s0c4), (Value.int .i64 s0c5), (Value.int .i64 s0c6), (Value.int .i64 s0c7), (Value.slice s0c8a s0c8n s0c8c)]⟩), (Value.int .i64 flag1)]) H (RetW Tryz.prog Tryz.f137.results.toList R) := by kernel_rfl
theorem Zbnj (s0c0 : Int) (s0c1 : Int) (s0c2 : Int) (s0c3 : Int) (s0c4 : Int) (s0c5 : Int) (s0c6 : Int) (s0c7 : Int) (s0c8a : Option Addr) (s0c8n : Nat) (s0c8c : Nat) (flag1 : Int) {H : Heap} {R : Value -> Heap -> Prop} (h : Zvm s0c0 s0c1 s0c2 s0c3 s0c4 s0c5 s0c6 s0c7 s0c8a s0c8n s0c8c flag1 H fun v H1 => ∀ H2, Shut H H1 H2 -> R v H2) : FnW Tryz.prog Zhn ⟨[(Value.agg ⟨[(Value.int .i64 s0c0), (Value.int .i64 s0c1), (Value.int .u32 s0c2), (Value.int .u32 s0c3), (Value.int .i64 s0c4), (Value.int .i64 s0c5), (Value.int .i64 s0c6), (Value.int .i64 s0c7), (Value.slice s0c8a s0c8n s0c8c)]⟩), (Value.int .i64 flag1)]⟩ H R := FnW.of_code Zcgm (by kernel_rfl) (Eq.mp (Zcjz s0c0 s0c1 s0c2 s0c3 s0c4 s0c5 s0c6 s0c7 s0c8a s0c8n s0c8c flag1 H _) h)
def Zbdu : Plan := ⟨[], [], [], []⟩
theorem Zbsz : Known Tryz.prog Zec Tryz.f150 Zbdu (Zb Tryz.f150) := by refine ⟨Tryz.func150, ?_, ?_, ?_, ?_, ?_⟩ <;> kernel_rfl
def Zyd (o0b : Nat) (H : Heap) (R : Value -> Heap -> Prop) : Prop :=
 ∃ x9 : Option Addr, H.cell ⟨o0b, 0, none⟩ = some (Value.pointer x9) ∧
 R (Value.bool (!x9.isNone)) H
theorem Zbnz (o0b : Nat) (H : Heap) (R : Value -> Heap -> Prop) : Zyd o0b H R = Zc Tryz.prog Zbdu (Zb Tryz.f150) (env0 [(Value.pointer (some ⟨o0b, 0, none⟩))]) H (RetW Tryz.prog Tryz.f150.results.toList R) := by kernel_rfl
theorem Zcbo (o0b : Nat) {H : Heap} {R : Value -> Heap -> Prop} (h : Zyd o0b H fun v H1 => ∀ H2, Shut H H1 H2 -> R v H2) : FnW Tryz.prog Zec ⟨[(Value.pointer (some ⟨o0b, 0, none⟩))]⟩ H R := FnW.of_code Zbsz (by kernel_rfl) (Eq.mp (Zbnz o0b H _) h)
def Zbix : Plan := ⟨[], [(3, [3, 11], [.int .i64, .int .i64], [0, 9, 10]), (11, [6, 27], [.slice, .int .i64], [25, 26])], [], []⟩
theorem Zbpy : Known Tryz.prog Zoo Tryz.f151 Zbix (Zb Tryz.f151) := by refine ⟨Tryz.func151, ?_, ?_, ?_, ?_, ?_⟩ <;> kernel_rfl
def Zbkk (slices0a : Option Addr) (slices0n : Nat) (slices0c : Nat) (next3 : (Int × Int × Unit) -> Heap -> Prop) (newslice6a : Option Addr) (newslice6n : Nat) (newslice6c : Nat) (x27 : Int) (H3 : Heap) (next11 : ((Option Addr × Nat × Nat) × Int × Unit) -> Heap -> Prop) (R : Value -> Heap -> Prop) : Prop :=
 IfB (decide ((x27 : Int) < (slices0n : Int)))
 (NilP slices0a fun x29q =>
 InB x27 slices0n fun x29i =>
 elemAt x29q x29i 1 fun x29p =>
 ∃ (x30a : Option Addr) (x30n x30c : Nat), H3.cell x29p = some (Value.slice x30a x30n x30c) ∧
 AppW Tryz.prog #[Zi, Zi] Zi [(Value.slice newslice6a newslice6n newslice6c), (Value.slice x30a x30n x30c)] H3 fun x33v H4 =>
 ∃ (x33a : Option Addr) (x33n x33c : Nat), x33v = (Value.slice x33a x33n x33c) ∧
 next11 ((x33a, x33n, x33c), ((IntKind.wrap .i64 (x27 + 1)), ())) H4)
 (R (Value.slice newslice6a newslice6n newslice6c) H3)
def Zbed (slices0a : Option Addr) (slices0n : Nat) (slices0c : Nat) (size3 : Int) (x11 : Int) (H1 : Heap) (next3 : (Int × Int × Unit) -> Heap -> Prop) (R : Value -> Heap -> Prop) : Prop :=
 IfB (decide ((x11 : Int) < (slices0n : Int)))
 (NilP slices0a fun x13q =>
 InB x11 slices0n fun x13i =>
 elemAt x13q x13i 1 fun x13p =>
 ∃ (x14a : Option Addr) (x14n x14c : Nat), H1.cell x13p = some (Value.slice x14a x14n x14c) ∧
 IfB (decide (((IntKind.wrap .i64 (size3 + (x14n : Int))) : Int) < 0))
 (False)
 (next3 ((IntKind.wrap .i64 (size3 + (x14n : Int))), ((IntKind.wrap .i64 (x11 + 1)), ())) H1))
 (FnW Tryz.prog Zpp ⟨[(Value.slice none 0 0), (Value.int .i64 size3)]⟩ H1 fun x24v H2 =>
 ∃ (x24a : Option Addr) (x24n x24c : Nat), x24v = (Value.slice x24a x24n x24c) ∧
 Zci ((Option Addr × Nat × Nat) × Int × Unit) ((x24a, x24n, x24c), (0, ())) H2 fun x H next => ∀ _g : Env, Zbkk slices0a slices0n slices0c next3 x.1.1 x.1.2.1 x.1.2.2 x.2.1 H next R)
def Zur (slices0a : Option Addr) (slices0n : Nat) (slices0c : Nat) (H : Heap) (R : Value -> Heap -> Prop) : Prop :=
 Zci (Int × Int × Unit) (0, (0, ())) H fun x H next => ∀ _g : Env, Zbed slices0a slices0n slices0c x.1 x.2.1 H next R
theorem Zcdz (slices0a : Option Addr) (slices0n : Nat) (slices0c : Nat) (H : Heap) (R : Value -> Heap -> Prop) : Zur slices0a slices0n slices0c H R = Zc Tryz.prog Zbix (Zb Tryz.f151) (env0 [(Value.slice slices0a slices0n slices0c)]) H (RetW Tryz.prog Tryz.f151.results.toList R) := by kernel_rfl
theorem Zcem (slices0a : Option Addr) (slices0n : Nat) (slices0c : Nat) {H : Heap} {R : Value -> Heap -> Prop} (h : Zur slices0a slices0n slices0c H fun v H1 => ∀ H2, Shut H H1 H2 -> R v H2) : FnW Tryz.prog Zoo ⟨[(Value.slice slices0a slices0n slices0c)]⟩ H R := FnW.of_code Zbpy (by kernel_rfl) (Eq.mp (Zcdz slices0a slices0n slices0c H _) h)
def Zbcq : Plan := ⟨[], [], [], []⟩
theorem Zcdl : Known Tryz.prog Zpu Tryz.f152 Zbcq (Zb Tryz.f152) := by refine ⟨Tryz.func152, ?_, ?_, ?_, ?_, ?_⟩ <;> kernel_rfl
def Zxm (o0b : Nat) (now1 : Int) (H : Heap) (R : Value -> Heap -> Prop) : Prop :=
 FnW Tryz.prog Zrp ⟨[(Value.pointer (some ⟨o0b, 0, none⟩)), (Value.int .i64 now1)]⟩ H fun x10v H1 =>
 ∃ x10 : Int, x10v = (Value.int .i64 x10) ∧
 IfB ((x10 : Int) != 0)
 (R (Value.tuple ⟨[(Value.int .u32 0), (Value.slice none 0 0), (Value.int .i64 x10)]⟩) H1)
 (∃ x18 : Int, H1.cell ⟨o0b, 9, none⟩ = some (Value.int .i64 x18) ∧
 ∃ (x22a : Option Addr) (x22n x22c : Nat), H1.cell ⟨o0b, 5, none⟩ = some (Value.slice x22a x22n x22c) ∧
 ∃ x27 : Int, H1.cell ⟨o0b, 6, none⟩ = some (Value.int .i64 x27) ∧
 ∃ x32 : Int, H1.cell ⟨o0b, 8, none⟩ = some (Value.int .i64 x32) ∧
 ∃ x36 : Int, H1.cell ⟨o0b, 6, none⟩ = some (Value.int .i64 x36) ∧
 FnW Tryz.prog Zkm ⟨[(Value.pointer (some ⟨o0b, 0, none⟩)), (Value.int .i64 (min (min x18 (IntKind.wrap .i64 ((x22n : Int) - x27))) (IntKind.wrap .i64 (x32 - x36))))]⟩ H1 fun x39v H2 =>
 ∃ x39r0 : Int, ∃ (x39r1a : Option Addr) (x39r1n x39r1c : Nat), ∃ x39r2 : Int, x39v = (Value.tuple ⟨[(Value.int .u32 x39r0), (Value.slice x39r1a x39r1n x39r1c), (Value.int .i64 x39r2)]⟩) ∧
 R (Value.tuple ⟨[(Value.int .u32 x39r0), (Value.slice x39r1a x39r1n x39r1c), (Value.int .i64 x39r2)]⟩) H2)
theorem Zcfx (o0b : Nat) (now1 : Int) (H : Heap) (R : Value -> Heap -> Prop) : Zxm o0b now1 H R = Zc Tryz.prog Zbcq (Zb Tryz.f152) (env0 [(Value.pointer (some ⟨o0b, 0, none⟩)), (Value.int .i64 now1)]) H (RetW Tryz.prog Tryz.f152.results.toList R) := by kernel_rfl
theorem Zbpg (o0b : Nat) (now1 : Int) {H : Heap} {R : Value -> Heap -> Prop} (h : Zxm o0b now1 H fun v H1 => ∀ H2, Shut H H1 H2 -> R v H2) : FnW Tryz.prog Zpu ⟨[(Value.pointer (some ⟨o0b, 0, none⟩)), (Value.int .i64 now1)]⟩ H R := FnW.of_code Zcdl (by kernel_rfl) (Eq.mp (Zcfx o0b now1 H _) h)
def Zbhk : Plan := ⟨[], [], [], []⟩
theorem Zcbs : Known Tryz.prog Zlv Tryz.f153 Zbhk (Zb Tryz.f153) := by refine ⟨Tryz.func153, ?_, ?_, ?_, ?_, ?_⟩ <;> kernel_rfl
def Zwp (o0b : Nat) (H : Heap) (R : Value -> Heap -> Prop) : Prop :=
 FnW Tryz.prog Zec ⟨[(Value.pointer (some ⟨o0b, 0, none⟩))]⟩ H fun x4v H1 =>
 ∃ x4 : Bool, x4v = (Value.bool x4) ∧
 IfB (!x4)
 (R (Value.int .i64 0) H1)
 (∃ x9 : Int, H1.cell ⟨o0b, 6, none⟩ = some (Value.int .i64 x9) ∧
 R (Value.int .i64 x9) H1)
theorem Zbqo (o0b : Nat) (H : Heap) (R : Value -> Heap -> Prop) : Zwp o0b H R = Zc Tryz.prog Zbhk (Zb Tryz.f153) (env0 [(Value.pointer (some ⟨o0b, 0, none⟩))]) H (RetW Tryz.prog Tryz.f153.results.toList R) := by kernel_rfl
theorem Zbye (o0b : Nat) {H : Heap} {R : Value -> Heap -> Prop} (h : Zwp o0b H fun v H1 => ∀ H2, Shut H H1 H2 -> R v H2) : FnW Tryz.prog Zlv ⟨[(Value.pointer (some ⟨o0b, 0, none⟩))]⟩ H R := FnW.of_code Zcbs (by kernel_rfl) (Eq.mp (Zbqo o0b H _) h)
def Zblt : Plan := ⟨[], [], [], []⟩
theorem Zboc : Known Tryz.prog Zll Tryz.f154 Zblt (Zb Tryz.f154) := by refine ⟨Tryz.func154, ?_, ?_, ?_, ?_, ?_⟩ <;> kernel_rfl
def Zvu (o0b : Nat) (H : Heap) (R : Value -> Heap -> Prop) : Prop :=
 FnW Tryz.prog Zec ⟨[(Value.pointer (some ⟨o0b, 0, none⟩))]⟩ H fun x4v H1 =>
 ∃ x4 : Bool, x4v = (Value.bool x4) ∧
 IfB (!x4)
 (R (Value.int .i64 0) H1)
 (∃ (x9a : Option Addr) (x9n x9c : Nat), H1.cell ⟨o0b, 5, none⟩ = some (Value.slice x9a x9n x9c) ∧
 R (Value.int .i64 (x9n : Int)) H1)
theorem Zcjc (o0b : Nat) (H : Heap) (R : Value -> Heap -> Prop) : Zvu o0b H R = Zc Tryz.prog Zblt (Zb Tryz.f154) (env0 [(Value.pointer (some ⟨o0b, 0, none⟩))]) H (RetW Tryz.prog Tryz.f154.results.toList R) := by kernel_rfl
theorem Zbqd (o0b : Nat) {H : Heap} {R : Value -> Heap -> Prop} (h : Zvu o0b H fun v H1 => ∀ H2, Shut H H1 H2 -> R v H2) : FnW Tryz.prog Zll ⟨[(Value.pointer (some ⟨o0b, 0, none⟩))]⟩ H R := FnW.of_code Zboc (by kernel_rfl) (Eq.mp (Zcjc o0b H _) h)
def Zbir : Plan := ⟨[], [], [], []⟩
theorem Zbnh : Known Tryz.prog Zpl Tryz.f155 Zbir (Zb Tryz.f155) := by refine ⟨Tryz.func155, ?_, ?_, ?_, ?_, ?_⟩ <;> kernel_rfl
def Zxr (c0b : Nat) (H : Heap) (R : Value -> Heap -> Prop) : Prop :=
 ∃ x6 : Option Addr, H.cell ⟨c0b, 4, none⟩ = some (Value.pointer x6) ∧
 FnW Tryz.prog Zhr ⟨[(Value.pointer x6)]⟩ H fun x7v H1 =>
 ∃ x7 : Int, x7v = (Value.int .u32 x7) ∧
 FnW Tryz.prog Zgg ⟨[(Value.pointer (some ⟨c0b, 0, none⟩)), (Value.int .u32 x7), (Value.int .i64 17), (Value.slice none 0 0)]⟩ H1 fun x8v H2 =>
 ∃ x8 : Option Addr, x8v = (Value.pointer x8) ∧
 R (Value.tuple ⟨[]⟩) H2
theorem Zbpf (c0b : Nat) (H : Heap) (R : Value -> Heap -> Prop) : Zxr c0b H R = Zc Tryz.prog Zbir (Zb Tryz.f155) (env0 [(Value.pointer (some ⟨c0b, 0, none⟩))]) H (RetW Tryz.prog Tryz.f155.results.toList R) := by kernel_rfl
theorem Zchp (c0b : Nat) {H : Heap} {R : Value -> Heap -> Prop} (h : Zxr c0b H fun v H1 => ∀ H2, Shut H H1 H2 -> R v H2) : FnW Tryz.prog Zpl ⟨[(Value.pointer (some ⟨c0b, 0, none⟩))]⟩ H R := FnW.of_code Zbnh (by kernel_rfl) (Eq.mp (Zbpf c0b H _) h)
def Zzs : Plan := ⟨[], [], [], []⟩
theorem Zbms : Known Tryz.prog Zdy Tryz.f156 Zzs (Zb Tryz.f156) := by refine ⟨Tryz.func156, ?_, ?_, ?_, ?_, ?_⟩ <;> kernel_rfl
def Zts (j0b : Nat) (H : Heap) (R : Value -> Heap -> Prop) : Prop :=
 ∃ (x9a : Option Addr) (x9n x9c : Nat), H.cell ⟨j0b, 2, none⟩ = some (Value.slice x9a x9n x9c) ∧
 R (Value.bool (!x9a.isNone)) H
theorem Zchf (j0b : Nat) (H : Heap) (R : Value -> Heap -> Prop) : Zts j0b H R = Zc Tryz.prog Zzs (Zb Tryz.f156) (env0 [(Value.pointer (some ⟨j0b, 0, none⟩))]) H (RetW Tryz.prog Tryz.f156.results.toList R) := by kernel_rfl
theorem Zcdu (j0b : Nat) {H : Heap} {R : Value -> Heap -> Prop} (h : Zts j0b H fun v H1 => ∀ H2, Shut H H1 H2 -> R v H2) : FnW Tryz.prog Zdy ⟨[(Value.pointer (some ⟨j0b, 0, none⟩))]⟩ H R := FnW.of_code Zbms (by kernel_rfl) (Eq.mp (Zchf j0b H _) h)
def Zyj (H : Heap) (R : Value -> Heap -> Prop) : Prop :=
 R (Value.bool false) H
theorem Zbxx  (H : Heap) (R : Value -> Heap -> Prop) : Zyj  H R = Zc Tryz.prog Zzs (Zb Tryz.f156) (env0 [(Value.pointer none)]) H (RetW Tryz.prog Tryz.f156.results.toList R) := by kernel_rfl
theorem Zbyv  {H : Heap} {R : Value -> Heap -> Prop} (h : Zyj  H fun v H1 => ∀ H2, Shut H H1 H2 -> R v H2) : FnW Tryz.prog Zdy ⟨[(Value.pointer none)]⟩ H R := FnW.of_code Zbms (by kernel_rfl) (Eq.mp (Zbxx  H _) h)
def Zbdv : Plan := ⟨[], [], [], []⟩
theorem Zcah : Known Tryz.prog Zhj Tryz.f157 Zbdv (Zb Tryz.f157) := by refine ⟨Tryz.func157, ?_, ?_, ?_, ?_, ?_⟩ <;> kernel_rfl
def Zbaa (s0a : Option Addr) (s0n : Nat) (s0c : Nat) (H : Heap) (R : Value -> Heap -> Prop) : Prop :=
 IfB s0a.isNone
 (R (Value.slice none 0 0) H)
 (NewW H (Obj.cells ⟨[]⟩ Zf) fun x5b H1 =>
 AppW Tryz.prog #[Zi, Zi] Zi [(Value.slice (some ⟨x5b, 0, none⟩) 0 0), (Value.slice s0a s0n s0c)] H1 fun x7v H2 =>
 ∃ (x7a : Option Addr) (x7n x7c : Nat), x7v = (Value.slice x7a x7n x7c) ∧
 R (Value.slice x7a x7n x7c) H2)
theorem Zcja (s0a : Option Addr) (s0n : Nat) (s0c : Nat) (H : Heap) (R : Value -> Heap -> Prop) : Zbaa s0a s0n s0c H R = Zc Tryz.prog Zbdv (Zb Tryz.f157) (env0 [(Value.slice s0a s0n s0c)]) H (RetW Tryz.prog Tryz.f157.results.toList R) := by kernel_rfl
theorem Zbxu (s0a : Option Addr) (s0n : Nat) (s0c : Nat) {H : Heap} {R : Value -> Heap -> Prop} (h : Zbaa s0a s0n s0c H fun v H1 => ∀ H2, Shut H H1 H2 -> R v H2) : FnW Tryz.prog Zhj ⟨[(Value.slice s0a s0n s0c)]⟩ H R := FnW.of_code Zcah (by kernel_rfl) (Eq.mp (Zcja s0a s0n s0c H _) h)
def Zbek : Plan := ⟨[], [], [], []⟩
theorem Zbwl : Known Tryz.prog Zlt Tryz.f158 Zbek (Zb Tryz.f158) := by refine ⟨Tryz.func158, ?_, ?_, ?_, ?_, ?_⟩ <;> kernel_rfl
def Zzg (c0b : Nat) (H : Heap) (R : Value -> Heap -> Prop) : Prop :=
 ∃ x7 : Option Addr, H.cell ⟨c0b, 4, none⟩ = some (Value.pointer x7) ∧
 FnW Tryz.prog Zhr ⟨[(Value.pointer x7)]⟩ H fun x8v H1 =>
 ∃ x8 : Int, x8v = (Value.int .u32 x8) ∧
 ∃ x13 : Bool, H1.cell ⟨c0b, 7, none⟩ = some (Value.bool x13) ∧
 IfB x13
 (R (Value.int .u32 (IntKind.wrap .u32 (x8 + 1))) H1)
 (R (Value.int .u32 x8) H1)
theorem Zbul (c0b : Nat) (H : Heap) (R : Value -> Heap -> Prop) : Zzg c0b H R = Zc Tryz.prog Zbek (Zb Tryz.f158) (env0 [(Value.pointer (some ⟨c0b, 0, none⟩))]) H (RetW Tryz.prog Tryz.f158.results.toList R) := by kernel_rfl
theorem Zbpv (c0b : Nat) {H : Heap} {R : Value -> Heap -> Prop} (h : Zzg c0b H fun v H1 => ∀ H2, Shut H H1 H2 -> R v H2) : FnW Tryz.prog Zlt ⟨[(Value.pointer (some ⟨c0b, 0, none⟩))]⟩ H R := FnW.of_code Zbwl (by kernel_rfl) (Eq.mp (Zbul c0b H _) h)
def Zbkd : Plan := ⟨[], [(2000000, [0], [.int .u32], [])], [], []⟩
theorem Zcjn : Known Tryz.prog Zcr Tryz.f159 Zbkd (Zb Tryz.f159) := by refine ⟨Tryz.func159, ?_, ?_, ?_, ?_, ?_⟩ <;> kernel_rfl
def Zwa (n0_1 : Int) (H1 : Heap) (next2000000 : (Int × Unit) -> Heap -> Prop) (R : Value -> Heap -> Prop) : Prop :=
 IfB (decide ((n0_1 : Int) > 65535))
 ((0 : Int) <= 16 ∧
 next2000000 ((IntKind.wrap .u32 ((Zz .u32 n0_1 65535) + (Int.fdiv n0_1 (2 ^ (min (16 : Int).toNat (IntKind.bits .u32)))))), ()) H1)
 (R (Value.int .u32 n0_1) H1)
def Znm (n0 : Int) (H : Heap) (R : Value -> Heap -> Prop) : Prop :=
 Zci (Int × Unit) (n0, ()) H fun x H next => ∀ _g : Env, Zwa x.1 H next R
theorem Zchx (n0 : Int) (H : Heap) (R : Value -> Heap -> Prop) : Znm n0 H R = Zc Tryz.prog Zbkd (Zb Tryz.f159) (env0 [(Value.int .u32 n0)]) H (RetW Tryz.prog Tryz.f159.results.toList R) := by kernel_rfl
theorem Zbjm (n0 : Int) {H : Heap} {R : Value -> Heap -> Prop} (h : Znm n0 H fun v H1 => ∀ H2, Shut H H1 H2 -> R v H2) : FnW Tryz.prog Zcr ⟨[(Value.int .u32 n0)]⟩ H R := FnW.of_code Zcjn (by kernel_rfl) (Eq.mp (Zchx n0 H _) h)
def Zbhs : Plan := ⟨[], [], [], []⟩
theorem Zbxj : Known Tryz.prog Zni Tryz.f163 Zbhs (Zb Tryz.f163) := by refine ⟨Tryz.func163, ?_, ?_, ?_, ?_, ?_⟩ <;> kernel_rfl
def Zsh (una0 : Int) (room1 : Int) (window2 : Int) (greatest3 : Int) (x22 : Bool) (H2 : Heap) (R : Value -> Heap -> Prop) : Prop :=
 IfB x22
 (R (Value.tuple ⟨[(Value.pointer none), (Value.int .i64 2)]⟩) H2)
 (FnW Tryz.prog Zsa ⟨[]⟩ H2 fun x23v H3 =>
 ∃ x23 : Option Addr, x23v = (Value.pointer x23) ∧
 NewW H3 (Obj.cells ⟨[(Value.pointer x23), (Value.bool false), (Value.int .u32 0), (Value.int .i64 0), (Value.int .u32 una0), (Value.slice none 0 0), (Value.int .i64 0), (Value.int .i64 room1), (Value.int .i64 window2), (Value.int .i64 greatest3), (Value.int .i64 0)]⟩ Zgk) fun x29b H4 =>
 R (Value.tuple ⟨[(Value.pointer (some ⟨x29b, 0, none⟩)), (Value.int .i64 0)]⟩) H4)
def Zzu (una0 : Int) (room1 : Int) (window2 : Int) (greatest3 : Int) (H : Heap) (R : Value -> Heap -> Prop) : Prop :=
 FnW Tryz.prog Zhu ⟨[(Value.int .i64 room1), (Value.int .i64 1)]⟩ H fun x11v H1 =>
 ∃ x11 : Bool, x11v = (Value.bool x11) ∧
 IfB (!x11)
 (Zsh una0 room1 window2 greatest3 true H1 R)
 (FnW Tryz.prog Zhu ⟨[(Value.int .i64 window2), (Value.int .i64 0)]⟩ H1 fun x15v H5 =>
 ∃ x15 : Bool, x15v = (Value.bool x15) ∧
 IfB (!x15)
 (Zsh una0 room1 window2 greatest3 true H5 R)
 (FnW Tryz.prog Zhu ⟨[(Value.int .i64 greatest3), (Value.int .i64 1)]⟩ H5 fun x20v H6 =>
 ∃ x20 : Bool, x20v = (Value.bool x20) ∧
 Zsh una0 room1 window2 greatest3 (!x20) H6 R))
theorem Zbyy (una0 : Int) (room1 : Int) (window2 : Int) (greatest3 : Int) (H : Heap) (R : Value -> Heap -> Prop) : Zzu una0 room1 window2 greatest3 H R = Zc Tryz.prog Zbhs (Zb Tryz.f163) (env0 [(Value.int .u32 una0), (Value.int .i64 room1), (Value.int .i64 window2), (Value.int .i64 greatest3)]) H (RetW Tryz.prog Tryz.f163.results.toList R) := by kernel_rfl
theorem Zbrk (una0 : Int) (room1 : Int) (window2 : Int) (greatest3 : Int) {H : Heap} {R : Value -> Heap -> Prop} (h : Zzu una0 room1 window2 greatest3 H fun v H1 => ∀ H2, Shut H H1 H2 -> R v H2) : FnW Tryz.prog Zni ⟨[(Value.int .u32 una0), (Value.int .i64 room1), (Value.int .i64 window2), (Value.int .i64 greatest3)]⟩ H R := FnW.of_code Zbxj (by kernel_rfl) (Eq.mp (Zbyy una0 room1 window2 greatest3 H _) h)
def Zbcx : Plan := ⟨[], [], [], []⟩
theorem Zbwa : Known Tryz.prog Zsu Tryz.f164 Zbcx (Zb Tryz.f164) := by refine ⟨Tryz.func164, ?_, ?_, ?_, ?_, ?_⟩ <;> kernel_rfl
def Zth (c0b : Nat) (H : Heap) (R : Value -> Heap -> Prop) : Prop :=
 ∃ x6 : Option Addr, H.cell ⟨c0b, 5, none⟩ = some (Value.pointer x6) ∧
 IfB x6.isNone
 (R (Value.int .i64 4096) H)
 (∃ x11 : Option Addr, H.cell ⟨c0b, 5, none⟩ = some (Value.pointer x11) ∧
 FnW Tryz.prog Zga ⟨[(Value.pointer x11)]⟩ H fun x12v H1 =>
 ∃ x12 : Int, x12v = (Value.int .i64 x12) ∧
 R (Value.int .i64 x12) H1)
theorem Zccy (c0b : Nat) (H : Heap) (R : Value -> Heap -> Prop) : Zth c0b H R = Zc Tryz.prog Zbcx (Zb Tryz.f164) (env0 [(Value.pointer (some ⟨c0b, 0, none⟩))]) H (RetW Tryz.prog Tryz.f164.results.toList R) := by kernel_rfl
theorem Zbxo (c0b : Nat) {H : Heap} {R : Value -> Heap -> Prop} (h : Zth c0b H fun v H1 => ∀ H2, Shut H H1 H2 -> R v H2) : FnW Tryz.prog Zsu ⟨[(Value.pointer (some ⟨c0b, 0, none⟩))]⟩ H R := FnW.of_code Zbwa (by kernel_rfl) (Eq.mp (Zccy c0b H _) h)
def Zbkl : Plan := ⟨[], [], [], []⟩
theorem Zboi : Known Tryz.prog Zrt Tryz.f165 Zbkl (Zb Tryz.f165) := by refine ⟨Tryz.func165, ?_, ?_, ?_, ?_, ?_⟩ <;> kernel_rfl
def Zzk (o0b : Nat) (H : Heap) (R : Value -> Heap -> Prop) : Prop :=
 FnW Tryz.prog Zec ⟨[(Value.pointer (some ⟨o0b, 0, none⟩))]⟩ H fun x4v H1 =>
 ∃ x4 : Bool, x4v = (Value.bool x4) ∧
 IfB (!x4)
 (R (Value.int .i64 0) H1)
 (∃ x9 : Int, H1.cell ⟨o0b, 8, none⟩ = some (Value.int .i64 x9) ∧
 R (Value.int .i64 x9) H1)
theorem Zccn (o0b : Nat) (H : Heap) (R : Value -> Heap -> Prop) : Zzk o0b H R = Zc Tryz.prog Zbkl (Zb Tryz.f165) (env0 [(Value.pointer (some ⟨o0b, 0, none⟩))]) H (RetW Tryz.prog Tryz.f165.results.toList R) := by kernel_rfl
theorem Zbno (o0b : Nat) {H : Heap} {R : Value -> Heap -> Prop} (h : Zzk o0b H fun v H1 => ∀ H2, Shut H H1 H2 -> R v H2) : FnW Tryz.prog Zrt ⟨[(Value.pointer (some ⟨o0b, 0, none⟩))]⟩ H R := FnW.of_code Zboi (by kernel_rfl) (Eq.mp (Zccn o0b H _) h)
def Zbib : Plan := ⟨[], [(2000000, [3, 4], [.int .i64, .int .i64], [])], [], []⟩
theorem Zbtn : Known Tryz.prog Znw Tryz.f166 Zbib (Zb Tryz.f166) := by refine ⟨Tryz.func166, ?_, ?_, ?_, ?_, ?_⟩ <;> kernel_rfl
def Znf (w3 : Int) (k4 : Int) (next2000000 : (Int × Int × Unit) -> Heap -> Prop) (x32 : Bool) (H3 : Heap) (R : Value -> Heap -> Prop) : Prop :=
 IfB x32
 (next2000000 ((IntKind.wrap .i64 (w3 * 2)), ((IntKind.wrap .i64 (k4 - 1)), ())) H3)
 (R (Value.int .i64 (max 5 (min 600 w3))) H3)
def Zbcu (w3 : Int) (k4 : Int) (H2 : Heap) (next2000000 : (Int × Int × Unit) -> Heap -> Prop) (R : Value -> Heap -> Prop) : Prop :=
 IfB (decide ((k4 : Int) > 0))
 (Znf w3 k4 next2000000 (decide ((w3 : Int) < 600)) H2 R)
 (Znf w3 k4 next2000000 false H2 R)
def Zss (w3_1 : Int) (k4_1 : Int) (next2000000_1 : (Int × Int × Unit) -> Heap -> Prop) (x32_1 : Bool) (H5 : Heap) (R : Value -> Heap -> Prop) : Prop :=
 IfB x32_1
 (next2000000_1 ((IntKind.wrap .i64 (w3_1 * 2)), ((IntKind.wrap .i64 (k4_1 - 1)), ())) H5)
 (R (Value.int .i64 (max 5 (min 600 w3_1))) H5)
def Zbhl (w3_1 : Int) (k4_1 : Int) (H4 : Heap) (next2000000_1 : (Int × Int × Unit) -> Heap -> Prop) (R : Value -> Heap -> Prop) : Prop :=
 IfB (decide ((k4_1 : Int) > 0))
 (Zss w3_1 k4_1 next2000000_1 (decide ((w3_1 : Int) < 600)) H4 R)
 (Zss w3_1 k4_1 next2000000_1 false H4 R)
def Zza (e0b : Nat) (H : Heap) (R : Value -> Heap -> Prop) : Prop :=
 FnW Tryz.prog Zjk ⟨[(Value.pointer (some ⟨e0b, 0, none⟩))]⟩ H fun x6v H1 =>
 ∃ x6 : Bool, x6v = (Value.bool x6) ∧
 IfB (!x6)
 (R (Value.int .i64 0) H1)
 (∃ x11 : Int, H1.cell ⟨e0b, 2, none⟩ = some (Value.int .i64 x11) ∧
 ∃ x15 : Bool, H1.cell ⟨e0b, 3, none⟩ = some (Value.bool x15) ∧
 IfB x15
 (∃ x19 : Int, H1.cell ⟨e0b, 0, none⟩ = some (Value.int .i64 x19) ∧
 (8 : Int) ≠ 0 ∧
 ∃ x24 : Int, H1.cell ⟨e0b, 1, none⟩ = some (Value.int .i64 x24) ∧
 Zci (Int × Int × Unit) ((IntKind.wrap .i64 ((IntKind.wrap .i64 (Int.tdiv x19 8)) + (max 1 x24))), (x11, ())) H1 fun x H next => ∀ _g : Env, Zbcu x.1 x.2.1 H next R)
 (Zci (Int × Int × Unit) (30, (x11, ())) H1 fun x H next => ∀ _g : Env, Zbhl x.1 x.2.1 H next R))
theorem Zcbt (e0b : Nat) (H : Heap) (R : Value -> Heap -> Prop) : Zza e0b H R = Zc Tryz.prog Zbib (Zb Tryz.f166) (env0 [(Value.pointer (some ⟨e0b, 0, none⟩))]) H (RetW Tryz.prog Tryz.f166.results.toList R) := by kernel_rfl
theorem Zbpj (e0b : Nat) {H : Heap} {R : Value -> Heap -> Prop} (h : Zza e0b H fun v H1 => ∀ H2, Shut H H1 H2 -> R v H2) : FnW Tryz.prog Znw ⟨[(Value.pointer (some ⟨e0b, 0, none⟩))]⟩ H R := FnW.of_code Zbtn (by kernel_rfl) (Eq.mp (Zcbt e0b H _) h)
def Zbma : Plan := ⟨[], [], [], []⟩
theorem Zbty : Known Tryz.prog Zky Tryz.f167 Zbma (Zb Tryz.f167) := by refine ⟨Tryz.func167, ?_, ?_, ?_, ?_, ?_⟩ <;> kernel_rfl
def Zvp (c0b : Nat) (H : Heap) (R : Value -> Heap -> Prop) : Prop :=
 Za H ⟨c0b, 0, none⟩ (Value.int .i64 0) fun H1 =>
 R (Value.tuple ⟨[]⟩) H1
theorem Zboa (c0b : Nat) (H : Heap) (R : Value -> Heap -> Prop) : Zvp c0b H R = Zc Tryz.prog Zbma (Zb Tryz.f167) (env0 [(Value.pointer (some ⟨c0b, 0, none⟩))]) H (RetW Tryz.prog Tryz.f167.results.toList R) := by kernel_rfl
theorem Zcef (c0b : Nat) {H : Heap} {R : Value -> Heap -> Prop} (h : Zvp c0b H fun v H1 => ∀ H2, Shut H H1 H2 -> R v H2) : FnW Tryz.prog Zky ⟨[(Value.pointer (some ⟨c0b, 0, none⟩))]⟩ H R := FnW.of_code Zbty (by kernel_rfl) (Eq.mp (Zboa c0b H _) h)
def Zbfa : Plan := ⟨[], [], [], []⟩
theorem Zbps : Known Tryz.prog Zqt Tryz.f168 Zbfa (Zb Tryz.f168) := by refine ⟨Tryz.func168, ?_, ?_, ?_, ?_, ?_⟩ <;> kernel_rfl
def Zwy (next0 : Int) (room1 : Int) (x11 : Bool) (H1 : Heap) (R : Value -> Heap -> Prop) : Prop :=
 IfB x11
 (R (Value.tuple ⟨[(Value.pointer none), (Value.int .i64 2)]⟩) H1)
 (Zcs Tryz.prog Zi (Value.int .i64 room1) (Value.int .i64 room1) H1 fun x14v H2 =>
 ∃ (x14a : Option Addr) (x14n x14c : Nat), x14v = (Value.slice x14a x14n x14c) ∧
 Zcs Tryz.prog Zchn (Value.int .i64 room1) (Value.int .i64 room1) H2 fun x16v H3 =>
 ∃ (x16a : Option Addr) (x16n x16c : Nat), x16v = (Value.slice x16a x16n x16c) ∧
 NewW H3 (Obj.cells ⟨[(Value.int .u32 next0), (Value.int .i64 0), (Value.slice x14a x14n x14c), (Value.slice x16a x16n x16c), (Value.int .i64 0), (Value.slice none 0 0)]⟩ Zhv) fun x18b H4 =>
 R (Value.tuple ⟨[(Value.pointer (some ⟨x18b, 0, none⟩)), (Value.int .i64 0)]⟩) H4)
def Ztb (next0 : Int) (room1 : Int) (H : Heap) (R : Value -> Heap -> Prop) : Prop :=
 IfB (decide ((room1 : Int) < 1))
 (Zwy next0 room1 true H R)
 (Zwy next0 room1 (decide ((room1 : Int) > 65535)) H R)
theorem Zbnd (next0 : Int) (room1 : Int) (H : Heap) (R : Value -> Heap -> Prop) : Ztb next0 room1 H R = Zc Tryz.prog Zbfa (Zb Tryz.f168) (env0 [(Value.int .u32 next0), (Value.int .i64 room1)]) H (RetW Tryz.prog Tryz.f168.results.toList R) := by kernel_rfl
theorem Zcin (next0 : Int) (room1 : Int) {H : Heap} {R : Value -> Heap -> Prop} (h : Ztb next0 room1 H fun v H1 => ∀ H2, Shut H H1 H2 -> R v H2) : FnW Tryz.prog Zqt ⟨[(Value.int .u32 next0), (Value.int .i64 room1)]⟩ H R := FnW.of_code Zbps (by kernel_rfl) (Eq.mp (Zbnd next0 room1 H _) h)
def Zbey : Plan := ⟨[], [], [], []⟩
theorem Zbth : Known Tryz.prog Zpz Tryz.f169 Zbey (Zb Tryz.f169) := by refine ⟨Tryz.func169, ?_, ?_, ?_, ?_, ?_⟩ <;> kernel_rfl
def Zxl (s0c0 : Int) (s0c1 : Int) (s0c2 : Int) (s0c3 : Int) (s0c4 : Int) (s0c5 : Int) (s0c6 : Int) (s0c7 : Int) (s0c8a : Option Addr) (s0c8n : Nat) (s0c8c : Nat) (H : Heap) (R : Value -> Heap -> Prop) : Prop :=
 NewW H (Obj.cells ⟨[(Value.int .i64 s0c0), (Value.int .i64 s0c1), (Value.int .u32 s0c2), (Value.int .u32 s0c3), (Value.int .i64 s0c4), (Value.int .i64 s0c5), (Value.int .i64 s0c6), (Value.int .i64 s0c7), (Value.slice s0c8a s0c8n s0c8c)]⟩ Zl) fun s1b H1 =>
 ∃ x4 : Int, H1.cell ⟨s1b, 7, none⟩ = some (Value.int .i64 x4) ∧
 IfB ((x4 : Int) == 0)
 (R (Value.int .i64 536) H1)
 (∃ x7 : Int, H1.cell ⟨s1b, 7, none⟩ = some (Value.int .i64 x7) ∧
 R (Value.int .i64 (min x7 1460)) H1)
theorem Zbnw (s0c0 : Int) (s0c1 : Int) (s0c2 : Int) (s0c3 : Int) (s0c4 : Int) (s0c5 : Int) (s0c6 : Int) (s0c7 : Int) (s0c8a : Option Addr) (s0c8n : Nat) (s0c8c : Nat) (H : Heap) (R : Value -> Heap -> Prop) : Zxl s0c0 s0c1 s0c2 s0c3 s0c4 s0c5 s0c6 s0c7 s0c8a s0c8n s0c8c H R = Zc Tryz.prog Zbey (Zb Tryz.f169) (env0 [(Value.agg ⟨[(Value.int .i64 s0c0), (Value.int .i64 s0c1), (Value.int .u32 s0c2), (Value.int .u32 s0c3), (Value.int .i64 s0c4), (Value.int .i64 s0c5), (Value.int .i64 s0c6), (Value.int .i64 s0c7), (Value.slice s0c8a s0c8n s0c8c)]⟩)]) H (RetW Tryz.prog Tryz.f169.results.toList R) := by kernel_rfl
theorem Zcjx (s0c0 : Int) (s0c1 : Int) (s0c2 : Int) (s0c3 : Int) (s0c4 : Int) (s0c5 : Int) (s0c6 : Int) (s0c7 : Int) (s0c8a : Option Addr) (s0c8n : Nat) (s0c8c : Nat) {H : Heap} {R : Value -> Heap -> Prop} (h : Zxl s0c0 s0c1 s0c2 s0c3 s0c4 s0c5 s0c6 s0c7 s0c8a s0c8n s0c8c H fun v H1 => ∀ H2, Shut H H1 H2 -> R v H2) : FnW Tryz.prog Zpz ⟨[(Value.agg ⟨[(Value.int .i64 s0c0), (Value.int .i64 s0c1), (Value.int .u32 s0c2), (Value.int .u32 s0c3), (Value.int .i64 s0c4), (Value.int .i64 s0c5), (Value.int .i64 s0c6), (Value.int .i64 s0c7), (Value.slice s0c8a s0c8n s0c8c)]⟩)]⟩ H R := FnW.of_code Zbth (by kernel_rfl) (Eq.mp (Zbnw s0c0 s0c1 s0c2 s0c3 s0c4 s0c5 s0c6 s0c7 s0c8a s0c8n s0c8c H _) h)
def Zbdd : Plan := ⟨[], [], [], []⟩
theorem Zbqs : Known Tryz.prog Ziy Tryz.f170 Zbdd (Zb Tryz.f170) := by refine ⟨Tryz.func170, ?_, ?_, ?_, ?_, ?_⟩ <;> kernel_rfl
def Zbbd (c0b : Nat) (H : Heap) (R : Value -> Heap -> Prop) : Prop :=
 Za H ⟨c0b, 11, none⟩ (Value.int .i64 (-1)) fun H1 =>
 ∃ x8 : Option Addr, H1.cell ⟨c0b, 4, none⟩ = some (Value.pointer x8) ∧
 NilP x8 fun x9p =>
 ∃ x11 : Option Addr, H1.cell x9p = some (Value.pointer x11) ∧
 FnW Tryz.prog Zig ⟨[(Value.pointer x11)]⟩ H1 fun x12v H2 =>
 x12v = (Value.tuple ⟨[]⟩) ∧
 R (Value.tuple ⟨[]⟩) H2
theorem Zced (c0b : Nat) (H : Heap) (R : Value -> Heap -> Prop) : Zbbd c0b H R = Zc Tryz.prog Zbdd (Zb Tryz.f170) (env0 [(Value.pointer (some ⟨c0b, 0, none⟩))]) H (RetW Tryz.prog Tryz.f170.results.toList R) := by kernel_rfl
theorem Zbrb (c0b : Nat) {H : Heap} {R : Value -> Heap -> Prop} (h : Zbbd c0b H fun v H1 => ∀ H2, Shut H H1 H2 -> R v H2) : FnW Tryz.prog Ziy ⟨[(Value.pointer (some ⟨c0b, 0, none⟩))]⟩ H R := FnW.of_code Zbqs (by kernel_rfl) (Eq.mp (Zced c0b H _) h)
def Zbie : Plan := ⟨[], [], [], []⟩
theorem Zcjk : Known Tryz.prog Zhg Tryz.f171 Zbie (Zb Tryz.f171) := by refine ⟨Tryz.func171, ?_, ?_, ?_, ?_, ?_⟩ <;> kernel_rfl
def Zme (o0b : Nat) (now1 : Int) (window3 : Int) (x19 : Int) (x39 : Bool) (H3 : Heap) (R : Value -> Heap -> Prop) : Prop :=
 IfB x39
 (R (Value.tuple ⟨[(Value.int .i64 0), (Value.int .i64 2)]⟩) H3)
 (Za H3 ⟨o0b, 10, none⟩ (Value.int .i64 now1) fun H4 =>
 Za H4 ⟨o0b, 8, none⟩ (Value.int .i64 window3) fun H5 =>
 IfB (decide (((IntKind.wrap .i64 x19) : Int) > 0))
 (FnW Tryz.prog Zrz ⟨[(Value.pointer (some ⟨o0b, 0, none⟩)), (Value.int .i64 (IntKind.wrap .i64 x19))]⟩ H5 fun x52v H6 =>
 x52v = (Value.tuple ⟨[]⟩) ∧
 R (Value.tuple ⟨[(Value.int .i64 (IntKind.wrap .i64 x19)), (Value.int .i64 0)]⟩) H6)
 (R (Value.tuple ⟨[(Value.int .i64 (IntKind.wrap .i64 x19)), (Value.int .i64 0)]⟩) H5))
def Zbac (o0b : Nat) (now1 : Int) (ack2 : Int) (window3 : Int) (H : Heap) (R : Value -> Heap -> Prop) : Prop :=
 FnW Tryz.prog Zec ⟨[(Value.pointer (some ⟨o0b, 0, none⟩))]⟩ H fun x12v H1 =>
 ∃ x12 : Bool, x12v = (Value.bool x12) ∧
 IfB (!x12)
 (R (Value.tuple ⟨[(Value.int .i64 0), (Value.int .i64 1)]⟩) H1)
 (∃ x17 : Int, H1.cell ⟨o0b, 4, none⟩ = some (Value.int .u32 x17) ∧
 FnW Tryz.prog Zfh ⟨[(Value.int .u32 x17), (Value.int .u32 ack2)]⟩ H1 fun x19v H2 =>
 ∃ x19 : Int, x19v = (Value.int .u32 x19) ∧
 ∃ x25 : Int, H2.cell ⟨o0b, 10, none⟩ = some (Value.int .i64 x25) ∧
 IfB (decide ((now1 : Int) < x25))
 (Zme o0b now1 window3 x19 true H2 R)
 (∃ x32 : Int, H2.cell ⟨o0b, 6, none⟩ = some (Value.int .i64 x32) ∧
 IfB (decide (((IntKind.wrap .i64 x19) : Int) > x32))
 (Zme o0b now1 window3 x19 true H2 R)
 (FnW Tryz.prog Zhu ⟨[(Value.int .i64 window3), (Value.int .i64 0)]⟩ H2 fun x37v H7 =>
 ∃ x37 : Bool, x37v = (Value.bool x37) ∧
 Zme o0b now1 window3 x19 (!x37) H7 R)))
theorem Zcbv (o0b : Nat) (now1 : Int) (ack2 : Int) (window3 : Int) (H : Heap) (R : Value -> Heap -> Prop) : Zbac o0b now1 ack2 window3 H R = Zc Tryz.prog Zbie (Zb Tryz.f171) (env0 [(Value.pointer (some ⟨o0b, 0, none⟩)), (Value.int .i64 now1), (Value.int .u32 ack2), (Value.int .i64 window3)]) H (RetW Tryz.prog Tryz.f171.results.toList R) := by kernel_rfl
theorem Zbqp (o0b : Nat) (now1 : Int) (ack2 : Int) (window3 : Int) {H : Heap} {R : Value -> Heap -> Prop} (h : Zbac o0b now1 ack2 window3 H fun v H1 => ∀ H2, Shut H H1 H2 -> R v H2) : FnW Tryz.prog Zhg ⟨[(Value.pointer (some ⟨o0b, 0, none⟩)), (Value.int .i64 now1), (Value.int .u32 ack2), (Value.int .i64 window3)]⟩ H R := FnW.of_code Zcjk (by kernel_rfl) (Eq.mp (Zcbv o0b now1 ack2 window3 H _) h)
def Zbga : Plan := ⟨[], [], [], []⟩
theorem Zbsf : Known Tryz.prog Zlj Tryz.f172 Zbga (Zb Tryz.f172) := by refine ⟨Tryz.func172, ?_, ?_, ?_, ?_, ?_⟩ <;> kernel_rfl
def Ztk (size0 : Int) (n1 : Int) (H : Heap) (R : Value -> Heap -> Prop) : Prop :=
 FnW Tryz.prog Zls ⟨[(Value.int .i64 size0)]⟩ H fun x6v H1 =>
 ∃ x6 : Bool, x6v = (Value.bool x6) ∧
 IfB x6
 (IfB (decide ((n1 : Int) ≥ 0))
 (R (Value.bool (decide ((n1 : Int) <= 1073741824))) H1)
 (R (Value.bool false) H1))
 (R (Value.bool false) H1)
theorem Zbzl (size0 : Int) (n1 : Int) (H : Heap) (R : Value -> Heap -> Prop) : Ztk size0 n1 H R = Zc Tryz.prog Zbga (Zb Tryz.f172) (env0 [(Value.int .i64 size0), (Value.int .i64 n1)]) H (RetW Tryz.prog Tryz.f172.results.toList R) := by kernel_rfl
theorem Zcgi (size0 : Int) (n1 : Int) {H : Heap} {R : Value -> Heap -> Prop} (h : Ztk size0 n1 H fun v H1 => ∀ H2, Shut H H1 H2 -> R v H2) : FnW Tryz.prog Zlj ⟨[(Value.int .i64 size0), (Value.int .i64 n1)]⟩ H R := FnW.of_code Zbsf (by kernel_rfl) (Eq.mp (Zbzl size0 n1 H _) h)
def Zbmd : Plan := ⟨[], [], [], []⟩
theorem Zbrr : Known Tryz.prog Zii Tryz.f173 Zbmd (Zb Tryz.f173) := by refine ⟨Tryz.func173, ?_, ?_, ?_, ?_, ?_⟩ <;> kernel_rfl
def Zbaq (a0 : Int) (from1 : Int) (size2 : Int) (H : Heap) (R : Value -> Heap -> Prop) : Prop :=
 FnW Tryz.prog Zls ⟨[(Value.int .i64 size2)]⟩ H fun x8v H1 =>
 ∃ x8 : Bool, x8v = (Value.bool x8) ∧
 IfB x8
 (FnW Tryz.prog Zfh ⟨[(Value.int .u32 from1), (Value.int .u32 a0)]⟩ H1 fun x12v H2 =>
 ∃ x12 : Int, x12v = (Value.int .u32 x12) ∧
 R (Value.bool (decide ((x12 : Int) < (IntKind.wrap .u32 size2)))) H2)
 (R (Value.bool false) H1)
theorem Zbvt (a0 : Int) (from1 : Int) (size2 : Int) (H : Heap) (R : Value -> Heap -> Prop) : Zbaq a0 from1 size2 H R = Zc Tryz.prog Zbmd (Zb Tryz.f173) (env0 [(Value.int .u32 a0), (Value.int .u32 from1), (Value.int .i64 size2)]) H (RetW Tryz.prog Tryz.f173.results.toList R) := by kernel_rfl
theorem Zchu (a0 : Int) (from1 : Int) (size2 : Int) {H : Heap} {R : Value -> Heap -> Prop} (h : Zbaq a0 from1 size2 H fun v H1 => ∀ H2, Shut H H1 H2 -> R v H2) : FnW Tryz.prog Zii ⟨[(Value.int .u32 a0), (Value.int .u32 from1), (Value.int .i64 size2)]⟩ H R := FnW.of_code Zbrr (by kernel_rfl) (Eq.mp (Zbvt a0 from1 size2 H _) h)
def Zwg : Plan := ⟨[], [], [], []⟩
theorem Zbmr : Known Tryz.prog Zgx Tryz.f174 Zwg (Zb Tryz.f174) := by refine ⟨Tryz.func174, ?_, ?_, ?_, ?_, ?_⟩ <;> kernel_rfl
def Zyt (j0b : Nat) (H : Heap) (R : Value -> Heap -> Prop) : Prop :=
 FnW Tryz.prog Zdy ⟨[(Value.pointer (some ⟨j0b, 0, none⟩))]⟩ H fun x4v H1 =>
 ∃ x4 : Bool, x4v = (Value.bool x4) ∧
 IfB (!x4)
 (R (Value.int .u32 0) H1)
 (∃ x9 : Int, H1.cell ⟨j0b, 0, none⟩ = some (Value.int .u32 x9) ∧
 R (Value.int .u32 x9) H1)
theorem Zbvx (j0b : Nat) (H : Heap) (R : Value -> Heap -> Prop) : Zyt j0b H R = Zc Tryz.prog Zwg (Zb Tryz.f174) (env0 [(Value.pointer (some ⟨j0b, 0, none⟩))]) H (RetW Tryz.prog Tryz.f174.results.toList R) := by kernel_rfl
theorem Zbxr (j0b : Nat) {H : Heap} {R : Value -> Heap -> Prop} (h : Zyt j0b H fun v H1 => ∀ H2, Shut H H1 H2 -> R v H2) : FnW Tryz.prog Zgx ⟨[(Value.pointer (some ⟨j0b, 0, none⟩))]⟩ H R := FnW.of_code Zbmr (by kernel_rfl) (Eq.mp (Zbvx j0b H _) h)
def Zbaj (H : Heap) (R : Value -> Heap -> Prop) : Prop :=
 FnW Tryz.prog Zdy ⟨[(Value.pointer none)]⟩ H fun x4v H1 =>
 ∃ x4 : Bool, x4v = (Value.bool x4) ∧
 IfB (!x4)
 (R (Value.int .u32 0) H1)
 (False)
theorem Zbzf  (H : Heap) (R : Value -> Heap -> Prop) : Zbaj  H R = Zc Tryz.prog Zwg (Zb Tryz.f174) (env0 [(Value.pointer none)]) H (RetW Tryz.prog Tryz.f174.results.toList R) := by kernel_rfl
theorem Zcdj  {H : Heap} {R : Value -> Heap -> Prop} (h : Zbaj  H fun v H1 => ∀ H2, Shut H H1 H2 -> R v H2) : FnW Tryz.prog Zgx ⟨[(Value.pointer none)]⟩ H R := FnW.of_code Zbmr (by kernel_rfl) (Eq.mp (Zbzf  H _) h)
def Zbgo : Plan := ⟨[], [], [], []⟩
theorem Zcgb : Known Tryz.prog Zhr Tryz.f175 Zbgo (Zb Tryz.f175) := by refine ⟨Tryz.func175, ?_, ?_, ?_, ?_, ?_⟩ <;> kernel_rfl
def Zuj (o0b : Nat) (H : Heap) (R : Value -> Heap -> Prop) : Prop :=
 FnW Tryz.prog Zec ⟨[(Value.pointer (some ⟨o0b, 0, none⟩))]⟩ H fun x4v H1 =>
 ∃ x4 : Bool, x4v = (Value.bool x4) ∧
 IfB (!x4)
 (R (Value.int .u32 0) H1)
 (∃ x9 : Int, H1.cell ⟨o0b, 4, none⟩ = some (Value.int .u32 x9) ∧
 ∃ x13 : Int, H1.cell ⟨o0b, 6, none⟩ = some (Value.int .i64 x13) ∧
 FnW Tryz.prog Zcv ⟨[(Value.int .u32 x9), (Value.int .i64 x13)]⟩ H1 fun x14v H2 =>
 ∃ x14 : Int, x14v = (Value.int .u32 x14) ∧
 R (Value.int .u32 x14) H2)
theorem Zbsm (o0b : Nat) (H : Heap) (R : Value -> Heap -> Prop) : Zuj o0b H R = Zc Tryz.prog Zbgo (Zb Tryz.f175) (env0 [(Value.pointer (some ⟨o0b, 0, none⟩))]) H (RetW Tryz.prog Tryz.f175.results.toList R) := by kernel_rfl
theorem Zbuk (o0b : Nat) {H : Heap} {R : Value -> Heap -> Prop} (h : Zuj o0b H fun v H1 => ∀ H2, Shut H H1 H2 -> R v H2) : FnW Tryz.prog Zhr ⟨[(Value.pointer (some ⟨o0b, 0, none⟩))]⟩ H R := FnW.of_code Zcgb (by kernel_rfl) (Eq.mp (Zbsm o0b H _) h)
def Zbdj : Plan := ⟨[], [], [], []⟩
theorem Zccs : Known Tryz.prog Zoi Tryz.f176 Zbdj (Zb Tryz.f176) := by refine ⟨Tryz.func176, ?_, ?_, ?_, ?_, ?_⟩ <;> kernel_rfl
def Zvq (c0b : Nat) (H : Heap) (R : Value -> Heap -> Prop) : Prop :=
 ∃ x6 : Bool, H.cell ⟨c0b, 8, none⟩ = some (Value.bool x6) ∧
 IfB x6
 (R (Value.tuple ⟨[]⟩) H)
 (Za H ⟨c0b, 8, none⟩ (Value.bool true) fun H1 =>
 ∃ x14 : Int, H1.cell ⟨c0b, 0, none⟩ = some (Value.int .i64 x14) ∧
 IfB ((x14 : Int) == 4)
 (Za H1 ⟨c0b, 0, none⟩ (Value.int .i64 5) fun H2 =>
 R (Value.tuple ⟨[]⟩) H2)
 (IfB ((x14 : Int) == 7)
 (FnW Tryz.prog Zlf ⟨[(Value.pointer (some ⟨c0b, 0, none⟩))]⟩ H1 fun x23v H3 =>
 x23v = (Value.tuple ⟨[]⟩) ∧
 R (Value.tuple ⟨[]⟩) H3)
 (IfB ((x14 : Int) == 8)
 (FnW Tryz.prog Zky ⟨[(Value.pointer (some ⟨c0b, 0, none⟩))]⟩ H1 fun x27v H4 =>
 x27v = (Value.tuple ⟨[]⟩) ∧
 R (Value.tuple ⟨[]⟩) H4)
 (R (Value.tuple ⟨[]⟩) H1))))
theorem Zbng (c0b : Nat) (H : Heap) (R : Value -> Heap -> Prop) : Zvq c0b H R = Zc Tryz.prog Zbdj (Zb Tryz.f176) (env0 [(Value.pointer (some ⟨c0b, 0, none⟩))]) H (RetW Tryz.prog Tryz.f176.results.toList R) := by kernel_rfl
theorem Zcfo (c0b : Nat) {H : Heap} {R : Value -> Heap -> Prop} (h : Zvq c0b H fun v H1 => ∀ H2, Shut H H1 H2 -> R v H2) : FnW Tryz.prog Zoi ⟨[(Value.pointer (some ⟨c0b, 0, none⟩))]⟩ H R := FnW.of_code Zccs (by kernel_rfl) (Eq.mp (Zbng c0b H _) h)
def Zbgc : Plan := ⟨[], [], [], []⟩
theorem Zckn : Known Tryz.prog Zqu Tryz.f177 Zbgc (Zb Tryz.f177) := by refine ⟨Tryz.func177, ?_, ?_, ?_, ?_, ?_⟩ <;> kernel_rfl
def Zva (a0 : Int) (b1 : Int) (H : Heap) (R : Value -> Heap -> Prop) : Prop :=
 FnW Tryz.prog Zfh ⟨[(Value.int .u32 a0), (Value.int .u32 b1)]⟩ H fun x8v H1 =>
 ∃ x8 : Int, x8v = (Value.int .u32 x8) ∧
 R (Value.bool (decide (((IntKind.wrap .u32 (x8 - 1)) : Int) < 2147483647))) H1
theorem Zckb (a0 : Int) (b1 : Int) (H : Heap) (R : Value -> Heap -> Prop) : Zva a0 b1 H R = Zc Tryz.prog Zbgc (Zb Tryz.f177) (env0 [(Value.int .u32 a0), (Value.int .u32 b1)]) H (RetW Tryz.prog Tryz.f177.results.toList R) := by kernel_rfl
theorem Zbne (a0 : Int) (b1 : Int) {H : Heap} {R : Value -> Heap -> Prop} (h : Zva a0 b1 H fun v H1 => ∀ H2, Shut H H1 H2 -> R v H2) : FnW Tryz.prog Zqu ⟨[(Value.int .u32 a0), (Value.int .u32 b1)]⟩ H R := FnW.of_code Zckn (by kernel_rfl) (Eq.mp (Zckb a0 b1 H _) h)
def Zbih : Plan := ⟨[], [], [], []⟩
theorem Zbzb : Known Tryz.prog Znk Tryz.f178 Zbih (Zb Tryz.f178) := by refine ⟨Tryz.func178, ?_, ?_, ?_, ?_, ?_⟩ <;> kernel_rfl
def Zvg (o0b : Nat) (H : Heap) (R : Value -> Heap -> Prop) : Prop :=
 FnW Tryz.prog Zec ⟨[(Value.pointer (some ⟨o0b, 0, none⟩))]⟩ H fun x4v H1 =>
 ∃ x4 : Bool, x4v = (Value.bool x4) ∧
 IfB (!x4)
 (R (Value.int .u32 0) H1)
 (∃ x9 : Int, H1.cell ⟨o0b, 4, none⟩ = some (Value.int .u32 x9) ∧
 R (Value.int .u32 x9) H1)
theorem Zbnm (o0b : Nat) (H : Heap) (R : Value -> Heap -> Prop) : Zvg o0b H R = Zc Tryz.prog Zbih (Zb Tryz.f178) (env0 [(Value.pointer (some ⟨o0b, 0, none⟩))]) H (RetW Tryz.prog Tryz.f178.results.toList R) := by kernel_rfl
theorem Zbsl (o0b : Nat) {H : Heap} {R : Value -> Heap -> Prop} (h : Zvg o0b H fun v H1 => ∀ H2, Shut H H1 H2 -> R v H2) : FnW Tryz.prog Znk ⟨[(Value.pointer (some ⟨o0b, 0, none⟩))]⟩ H R := FnW.of_code Zbzb (by kernel_rfl) (Eq.mp (Zbnm o0b H _) h)
def Zbgf : Plan := ⟨[], [], [], []⟩
theorem Zbyx : Known Tryz.prog Zig Tryz.f179 Zbgf (Zb Tryz.f179) := by refine ⟨Tryz.func179, ?_, ?_, ?_, ?_, ?_⟩ <;> kernel_rfl
def Zux (e0b : Nat) (H : Heap) (R : Value -> Heap -> Prop) : Prop :=
 FnW Tryz.prog Zjk ⟨[(Value.pointer (some ⟨e0b, 0, none⟩))]⟩ H fun x3v H1 =>
 ∃ x3 : Bool, x3v = (Value.bool x3) ∧
 IfB x3
 (Za H1 ⟨e0b, 2, none⟩ (Value.int .i64 0) fun H2 =>
 R (Value.tuple ⟨[]⟩) H2)
 (R (Value.tuple ⟨[]⟩) H1)
theorem Zbqm (e0b : Nat) (H : Heap) (R : Value -> Heap -> Prop) : Zux e0b H R = Zc Tryz.prog Zbgf (Zb Tryz.f179) (env0 [(Value.pointer (some ⟨e0b, 0, none⟩))]) H (RetW Tryz.prog Tryz.f179.results.toList R) := by kernel_rfl
theorem Zccv (e0b : Nat) {H : Heap} {R : Value -> Heap -> Prop} (h : Zux e0b H fun v H1 => ∀ H2, Shut H H1 H2 -> R v H2) : FnW Tryz.prog Zig ⟨[(Value.pointer (some ⟨e0b, 0, none⟩))]⟩ H R := FnW.of_code Zbyx (by kernel_rfl) (Eq.mp (Zbqm e0b H _) h)
def Zbkz : Plan := ⟨[(5, [0, 1, 2, 3, 4, 6, 7, 8, 5, 9, 10, 11, 12, 13, 14, 15, 16], [25]), (8, [0, 1, 2, 3, 4, 5, 6, 7, 8, 9], [41])], [(10, [48], [.int .i64], [0, 2, 8, 11, 47])], [], []⟩
theorem Zcdg : Known Tryz.prog Zng Tryz.f180 Zbkz (Zb Tryz.f180) := by refine ⟨Tryz.func180, ?_, ?_, ?_, ?_, ?_⟩ <;> kernel_rfl
def Zbke (j0b : Nat) (b2a : Option Addr) (b2n : Nat) (b2c : Nat) (x31r0 : Int) (x45 : Int) (x31r1 : Int) (x48 : Int) (H6 : Heap) (next10 : (Int × Unit) -> Heap -> Prop) (R : Value -> Heap -> Prop) : Prop :=
 IfB (decide ((x48 : Int) < x31r1))
 (NilP b2a fun x59q =>
 InB (IntKind.wrap .i64 (x31r0 + x48)) b2n fun x59i =>
 elemAt x59q x59i 1 fun x59p =>
 ∃ x60 : Int, H6.cell x59p = some (Value.int .u8 x60) ∧
 FnW Tryz.prog Zoa ⟨[(Value.pointer (some ⟨j0b, 0, none⟩)), (Value.int .i64 (IntKind.wrap .i64 ((IntKind.wrap .i64 x45) + x48))), (Value.int .u8 x60)]⟩ H6 fun x61v H7 =>
 x61v = (Value.tuple ⟨[]⟩) ∧
 next10 ((IntKind.wrap .i64 (x48 + 1)), ()) H7)
 (FnW Tryz.prog Zqw ⟨[(Value.pointer (some ⟨j0b, 0, none⟩))]⟩ H6 fun x64v H8 =>
 ∃ x64 : Int, x64v = (Value.int .i64 x64) ∧
 R (Value.tuple ⟨[(Value.int .i64 x64), (Value.int .i64 0)]⟩) H8)
def Zww (j0b : Nat) (at1 : Int) (b2a : Option Addr) (b2n : Nat) (b2c : Nat) (H : Heap) (R : Value -> Heap -> Prop) : Prop :=
 FnW Tryz.prog Zdy ⟨[(Value.pointer (some ⟨j0b, 0, none⟩))]⟩ H fun x15v H1 =>
 ∃ x15 : Bool, x15v = (Value.bool x15) ∧
 IfB (!x15)
 (R (Value.tuple ⟨[(Value.int .i64 0), (Value.int .i64 1)]⟩) H1)
 (IfB (decide (((b2n : Int) : Int) > 65536))
 (R (Value.tuple ⟨[(Value.int .i64 0), (Value.int .i64 3)]⟩) H1)
 (∃ bs : List Nat, (∀ b ∈ bs, ∃ o, H1 b = some o) ∧
 j0b ∈ bs ∧ ∃ x25 : Int, H1.cell ⟨j0b, 0, none⟩ = some (Value.int .u32 x25) ∧
 FnW Tryz.prog Zga ⟨[(Value.pointer (some ⟨j0b, 0, none⟩))]⟩ H1 fun x27v H2 =>
 ∃ x27 : Int, x27v = (Value.int .i64 x27) ∧
 Ze bs H1 H2 ∧ FnW Tryz.prog Zrc ⟨[(Value.int .u32 x25), (Value.int .i64 x27), (Value.int .u32 at1), (Value.int .i64 (b2n : Int))]⟩ H2 fun x31v H3 =>
 ∃ x31r0 : Int, ∃ x31r1 : Int, ∃ x31r2 : Int, x31v = (Value.tuple ⟨[(Value.int .i64 x31r0), (Value.int .i64 x31r1), (Value.int .i64 x31r2)]⟩) ∧
 Ze bs H1 H3 ∧ IfB ((x31r2 : Int) != 0)
 (R (Value.tuple ⟨[(Value.int .i64 0), (Value.int .i64 x31r2)]⟩) H3)
 (∃ bs : List Nat, (∀ b ∈ bs, ∃ o, H3 b = some o) ∧
 j0b ∈ bs ∧ ∃ x41 : Int, H3.cell ⟨j0b, 0, none⟩ = some (Value.int .u32 x41) ∧
 FnW Tryz.prog Zcv ⟨[(Value.int .u32 at1), (Value.int .i64 x31r0)]⟩ H3 fun x44v H4 =>
 ∃ x44 : Int, x44v = (Value.int .u32 x44) ∧
 Ze bs H3 H4 ∧ FnW Tryz.prog Zfh ⟨[(Value.int .u32 x41), (Value.int .u32 x44)]⟩ H4 fun x45v H5 =>
 ∃ x45 : Int, x45v = (Value.int .u32 x45) ∧
 Zci (Int × Unit) (0, ()) H5 fun x H next => ∀ _g : Env, Zbke j0b b2a b2n b2c x31r0 x45 x31r1 x.1 H next R)))
theorem Zcaj (j0b : Nat) (at1 : Int) (b2a : Option Addr) (b2n : Nat) (b2c : Nat) (H : Heap) (R : Value -> Heap -> Prop) : Zww j0b at1 b2a b2n b2c H R = Zc Tryz.prog Zbkz (Zb Tryz.f180) (env0 [(Value.pointer (some ⟨j0b, 0, none⟩)), (Value.int .u32 at1), (Value.slice b2a b2n b2c)]) H (RetW Tryz.prog Tryz.f180.results.toList R) := by kernel_rfl
theorem Zccf (j0b : Nat) (at1 : Int) (b2a : Option Addr) (b2n : Nat) (b2c : Nat) {H : Heap} {R : Value -> Heap -> Prop} (h : Zww j0b at1 b2a b2n b2c H fun v H1 => ∀ H2, Shut H H1 H2 -> R v H2) : FnW Tryz.prog Zng ⟨[(Value.pointer (some ⟨j0b, 0, none⟩)), (Value.int .u32 at1), (Value.slice b2a b2n b2c)]⟩ H R := FnW.of_code Zcdg (by kernel_rfl) (Eq.mp (Zcaj j0b at1 b2a b2n b2c H _) h)
def Zbfw : Plan := ⟨[], [], [], []⟩
theorem Zcib : Known Tryz.prog Zlf Tryz.f181 Zbfw (Zb Tryz.f181) := by refine ⟨Tryz.func181, ?_, ?_, ?_, ?_, ?_⟩ <;> kernel_rfl
def Zbag (c0b : Nat) (H : Heap) (R : Value -> Heap -> Prop) : Prop :=
 ∃ x7 : Int, H.cell ⟨c0b, 10, none⟩ = some (Value.int .i64 x7) ∧
 Za H ⟨c0b, 0, none⟩ (Value.int .i64 9) fun H1 =>
 Za H1 ⟨c0b, 11, none⟩ (Value.int .i64 (IntKind.wrap .i64 (x7 + 120))) fun H2 =>
 R (Value.tuple ⟨[]⟩) H2
theorem Zbrj (c0b : Nat) (H : Heap) (R : Value -> Heap -> Prop) : Zbag c0b H R = Zc Tryz.prog Zbfw (Zb Tryz.f181) (env0 [(Value.pointer (some ⟨c0b, 0, none⟩))]) H (RetW Tryz.prog Tryz.f181.results.toList R) := by kernel_rfl
theorem Zbwu (c0b : Nat) {H : Heap} {R : Value -> Heap -> Prop} (h : Zbag c0b H fun v H1 => ∀ H2, Shut H H1 H2 -> R v H2) : FnW Tryz.prog Zlf ⟨[(Value.pointer (some ⟨c0b, 0, none⟩))]⟩ H R := FnW.of_code Zcib (by kernel_rfl) (Eq.mp (Zbrj c0b H _) h)
def Zbho : Plan := ⟨[], [], [], []⟩
theorem Zbtk : Known Tryz.prog Zpp Tryz.f193 Zbho (Zb Tryz.f193) := by refine ⟨Tryz.func193, ?_, ?_, ?_, ?_, ?_⟩ <;> kernel_rfl
def Zwf (s0a : Option Addr) (s0n : Nat) (s0c : Nat) (n1 : Int) (H : Heap) (R : Value -> Heap -> Prop) : Prop :=
 IfB (decide ((n1 : Int) < 0))
 (False)
 (IfB (decide (((IntKind.wrap .i64 (n1 - (IntKind.wrap .i64 ((s0c : Int) - (s0n : Int))))) : Int) > 0))
 (InC (s0c : Int) s0c fun x20h =>
 AppW Tryz.prog #[Zi, Zde] Zi [(Value.slice s0a x20h s0c), (Value.int .i64 (IntKind.wrap .i64 (n1 - (IntKind.wrap .i64 ((s0c : Int) - (s0n : Int))))))] H fun x22v H1 =>
 ∃ (x22a : Option Addr) (x22n x22c : Nat), x22v = (Value.slice x22a x22n x22c) ∧
 InC (s0n : Int) x22c fun x25h =>
 R (Value.slice x22a x25h x22c) H1)
 (R (Value.slice s0a s0n s0c) H))
theorem Zbwo (s0a : Option Addr) (s0n : Nat) (s0c : Nat) (n1 : Int) (H : Heap) (R : Value -> Heap -> Prop) : Zwf s0a s0n s0c n1 H R = Zc Tryz.prog Zbho (Zb Tryz.f193) (env0 [(Value.slice s0a s0n s0c), (Value.int .i64 n1)]) H (RetW Tryz.prog Tryz.f193.results.toList R) := by kernel_rfl
theorem Zbtu (s0a : Option Addr) (s0n : Nat) (s0c : Nat) (n1 : Int) {H : Heap} {R : Value -> Heap -> Prop} (h : Zwf s0a s0n s0c n1 H fun v H1 => ∀ H2, Shut H H1 H2 -> R v H2) : FnW Tryz.prog Zpp ⟨[(Value.slice s0a s0n s0c), (Value.int .i64 n1)]⟩ H R := FnW.of_code Zbtk (by kernel_rfl) (Eq.mp (Zbwo s0a s0n s0c n1 H _) h)
def Zbkx : Plan := ⟨[], [], [], []⟩
theorem Zcdw : Known Tryz.prog Zrp Tryz.f194 Zbkx (Zb Tryz.f194) := by refine ⟨Tryz.func194, ?_, ?_, ?_, ?_, ?_⟩ <;> kernel_rfl
def Zbap (o0b : Nat) (now1 : Int) (H : Heap) (R : Value -> Heap -> Prop) : Prop :=
 FnW Tryz.prog Zec ⟨[(Value.pointer (some ⟨o0b, 0, none⟩))]⟩ H fun x7v H1 =>
 ∃ x7 : Bool, x7v = (Value.bool x7) ∧
 IfB (!x7)
 (R (Value.int .i64 1) H1)
 (∃ x14 : Int, H1.cell ⟨o0b, 10, none⟩ = some (Value.int .i64 x14) ∧
 IfB (decide ((now1 : Int) < x14))
 (R (Value.int .i64 2) H1)
 (Za H1 ⟨o0b, 10, none⟩ (Value.int .i64 now1) fun H2 =>
 R (Value.int .i64 0) H2))
theorem Zbzw (o0b : Nat) (now1 : Int) (H : Heap) (R : Value -> Heap -> Prop) : Zbap o0b now1 H R = Zc Tryz.prog Zbkx (Zb Tryz.f194) (env0 [(Value.pointer (some ⟨o0b, 0, none⟩)), (Value.int .i64 now1)]) H (RetW Tryz.prog Tryz.f194.results.toList R) := by kernel_rfl
theorem Zcjj (o0b : Nat) (now1 : Int) {H : Heap} {R : Value -> Heap -> Prop} (h : Zbap o0b now1 H fun v H1 => ∀ H2, Shut H H1 H2 -> R v H2) : FnW Tryz.prog Zrp ⟨[(Value.pointer (some ⟨o0b, 0, none⟩)), (Value.int .i64 now1)]⟩ H R := FnW.of_code Zcdw (by kernel_rfl) (Eq.mp (Zbzw o0b now1 H _) h)
def Zbgn : Plan := ⟨[(6, [0, 1, 3, 4, 5, 6, 2, 7, 8, 9, 10], [41])], [], [], []⟩
theorem Zbtr : Known Tryz.prog Zkm Tryz.f195 Zbgn (Zb Tryz.f195) := by refine ⟨Tryz.func195, ?_, ?_, ?_, ?_, ?_⟩ <;> kernel_rfl
def Znb (o0b : Nat) (n1 : Int) (x12 : Int) (x28a : Option Addr) (x28n : Nat) (x28c : Nat) (H7 : Heap) (R : Value -> Heap -> Prop) : Prop :=
 ∃ x48 : Int, H7.cell ⟨o0b, 6, none⟩ = some (Value.int .i64 x48) ∧
 Za H7 ⟨o0b, 6, none⟩ (Value.int .i64 (IntKind.wrap .i64 (x48 + n1))) fun H8 =>
 R (Value.tuple ⟨[(Value.int .u32 x12), (Value.slice x28a x28n x28c), (Value.int .i64 0)]⟩) H8
def Zna (o0b : Nat) (n1 : Int) (H : Heap) (R : Value -> Heap -> Prop) : Prop :=
 IfB (decide ((n1 : Int) <= 0))
 (R (Value.tuple ⟨[(Value.int .u32 0), (Value.slice none 0 0), (Value.int .i64 5)]⟩) H)
 (FnW Tryz.prog Zhr ⟨[(Value.pointer (some ⟨o0b, 0, none⟩))]⟩ H fun x12v H1 =>
 ∃ x12 : Int, x12v = (Value.int .u32 x12) ∧
 ∃ (x16a : Option Addr) (x16n x16c : Nat), H1.cell ⟨o0b, 5, none⟩ = some (Value.slice x16a x16n x16c) ∧
 ∃ x20 : Int, H1.cell ⟨o0b, 6, none⟩ = some (Value.int .i64 x20) ∧
 ∃ x24 : Int, H1.cell ⟨o0b, 6, none⟩ = some (Value.int .i64 x24) ∧
 InC (IntKind.wrap .i64 (x24 + n1)) x16c fun x27h =>
 InC x20 x27h fun x27l =>
 FnW Tryz.prog Zhj ⟨[(Value.slice (if x16c = x27l then x16a else Option.map (fun a => Addr.add a (x27l * 1)) x16a) (x27h - x27l) (x16c - x27l))]⟩ H1 fun x28v H2 =>
 ∃ (x28a : Option Addr) (x28n x28c : Nat), x28v = (Value.slice x28a x28n x28c) ∧
 ∃ x33 : Bool, H2.cell ⟨o0b, 1, none⟩ = some (Value.bool x33) ∧
 IfB (!x33)
 (∃ bs : List Nat, (∀ b ∈ bs, ∃ o, H2 b = some o) ∧
 o0b ∈ bs ∧ ∃ x41 : Int, H2.cell ⟨o0b, 10, none⟩ = some (Value.int .i64 x41) ∧
 FnW Tryz.prog Zcv ⟨[(Value.int .u32 x12), (Value.int .i64 1)]⟩ H2 fun x37v H3 =>
 ∃ x37 : Int, x37v = (Value.int .u32 x37) ∧
 Ze bs H2 H3 ∧ Za H3 ⟨o0b, 1, none⟩ (Value.bool true) fun H4 =>
 Za H4 ⟨o0b, 2, none⟩ (Value.int .u32 x37) fun H5 =>
 Za H5 ⟨o0b, 3, none⟩ (Value.int .i64 x41) fun H6 =>
 Znb o0b n1 x12 x28a x28n x28c H6 R)
 (Znb o0b n1 x12 x28a x28n x28c H2 R))
theorem Zbxl (o0b : Nat) (n1 : Int) (H : Heap) (R : Value -> Heap -> Prop) : Zna o0b n1 H R = Zc Tryz.prog Zbgn (Zb Tryz.f195) (env0 [(Value.pointer (some ⟨o0b, 0, none⟩)), (Value.int .i64 n1)]) H (RetW Tryz.prog Tryz.f195.results.toList R) := by kernel_rfl
theorem Zblm (o0b : Nat) (n1 : Int) {H : Heap} {R : Value -> Heap -> Prop} (h : Zna o0b n1 H fun v H1 => ∀ H2, Shut H H1 H2 -> R v H2) : FnW Tryz.prog Zkm ⟨[(Value.pointer (some ⟨o0b, 0, none⟩)), (Value.int .i64 n1)]⟩ H R := FnW.of_code Zbtr (by kernel_rfl) (Eq.mp (Zbxl o0b n1 H _) h)
def Zbcf : Plan := ⟨[], [], [], []⟩
theorem Zbxv : Known Tryz.prog Zhu Tryz.f207 Zbcf (Zb Tryz.f207) := by refine ⟨Tryz.func207, ?_, ?_, ?_, ?_, ?_⟩ <;> kernel_rfl
def Ztj (n0 : Int) (least1 : Int) (H : Heap) (R : Value -> Heap -> Prop) : Prop :=
 IfB (decide ((n0 : Int) ≥ least1))
 (R (Value.bool (decide ((n0 : Int) <= 65535))) H)
 (R (Value.bool false) H)
theorem Zbnl (n0 : Int) (least1 : Int) (H : Heap) (R : Value -> Heap -> Prop) : Ztj n0 least1 H R = Zc Tryz.prog Zbcf (Zb Tryz.f207) (env0 [(Value.int .i64 n0), (Value.int .i64 least1)]) H (RetW Tryz.prog Tryz.f207.results.toList R) := by kernel_rfl
theorem Zbsn (n0 : Int) (least1 : Int) {H : Heap} {R : Value -> Heap -> Prop} (h : Ztj n0 least1 H fun v H1 => ∀ H2, Shut H H1 H2 -> R v H2) : FnW Tryz.prog Zhu ⟨[(Value.int .i64 n0), (Value.int .i64 least1)]⟩ H R := FnW.of_code Zbxv (by kernel_rfl) (Eq.mp (Zbnl n0 least1 H _) h)
def Zbee : Plan := ⟨[], [], [], []⟩
theorem Zcfb : Known Tryz.prog Zsa Tryz.f208 Zbee (Zb Tryz.f208) := by refine ⟨Tryz.func208, ?_, ?_, ?_, ?_, ?_⟩ <;> kernel_rfl
def Zyq (H : Heap) (R : Value -> Heap -> Prop) : Prop :=
 NewW H (Obj.cells ⟨[(Value.int .i64 0), (Value.int .i64 0), (Value.int .i64 0), (Value.bool false), (Value.bool true)]⟩ Zze) fun x2b H1 =>
 R (Value.pointer (some ⟨x2b, 0, none⟩)) H1
theorem Zbwm  (H : Heap) (R : Value -> Heap -> Prop) : Zyq  H R = Zc Tryz.prog Zbee (Zb Tryz.f208) (env0 []) H (RetW Tryz.prog Tryz.f208.results.toList R) := by kernel_rfl
theorem Zbre  {H : Heap} {R : Value -> Heap -> Prop} (h : Zyq  H fun v H1 => ∀ H2, Shut H H1 H2 -> R v H2) : FnW Tryz.prog Zsa ⟨[]⟩ H R := FnW.of_code Zcfb (by kernel_rfl) (Eq.mp (Zbwm  H _) h)
def Zbbl : Plan := ⟨[], [], [], []⟩
theorem Zbob : Known Tryz.prog Zjk Tryz.f209 Zbbl (Zb Tryz.f209) := by refine ⟨Tryz.func209, ?_, ?_, ?_, ?_, ?_⟩ <;> kernel_rfl
def Zxg (e0b : Nat) (H : Heap) (R : Value -> Heap -> Prop) : Prop :=
 ∃ x9 : Bool, H.cell ⟨e0b, 4, none⟩ = some (Value.bool x9) ∧
 R (Value.bool x9) H
theorem Zbpq (e0b : Nat) (H : Heap) (R : Value -> Heap -> Prop) : Zxg e0b H R = Zc Tryz.prog Zbbl (Zb Tryz.f209) (env0 [(Value.pointer (some ⟨e0b, 0, none⟩))]) H (RetW Tryz.prog Tryz.f209.results.toList R) := by kernel_rfl
theorem Zcex (e0b : Nat) {H : Heap} {R : Value -> Heap -> Prop} (h : Zxg e0b H fun v H1 => ∀ H2, Shut H H1 H2 -> R v H2) : FnW Tryz.prog Zjk ⟨[(Value.pointer (some ⟨e0b, 0, none⟩))]⟩ H R := FnW.of_code Zbob (by kernel_rfl) (Eq.mp (Zbpq e0b H _) h)
def Zbfd : Plan := ⟨[], [], [], []⟩
theorem Zcaa : Known Tryz.prog Zfh Tryz.f210 Zbfd (Zb Tryz.f210) := by refine ⟨Tryz.func210, ?_, ?_, ?_, ?_, ?_⟩ <;> kernel_rfl
def Zzd (a0 : Int) (b1 : Int) (H : Heap) (R : Value -> Heap -> Prop) : Prop :=
 R (Value.int .u32 (IntKind.wrap .u32 (b1 - a0))) H
theorem Zcbx (a0 : Int) (b1 : Int) (H : Heap) (R : Value -> Heap -> Prop) : Zzd a0 b1 H R = Zc Tryz.prog Zbfd (Zb Tryz.f210) (env0 [(Value.int .u32 a0), (Value.int .u32 b1)]) H (RetW Tryz.prog Tryz.f210.results.toList R) := by kernel_rfl
theorem Zbzc (a0 : Int) (b1 : Int) {H : Heap} {R : Value -> Heap -> Prop} (h : Zzd a0 b1 H fun v H1 => ∀ H2, Shut H H1 H2 -> R v H2) : FnW Tryz.prog Zfh ⟨[(Value.int .u32 a0), (Value.int .u32 b1)]⟩ H R := FnW.of_code Zcaa (by kernel_rfl) (Eq.mp (Zcbx a0 b1 H _) h)
def Zbmv : Plan := ⟨[(0, [0, 1, 2, 3, 4, 5, 6, 7, 8, 9, 10, 11, 12, 13, 14, 17, 15, 16, 18, 19], [])], [], [], []⟩
theorem Zcbk : Known Tryz.prog Zrz Tryz.f211 Zbmv (Zb Tryz.f211) := by refine ⟨Tryz.func211, ?_, ?_, ?_, ?_, ?_⟩ <;> kernel_rfl
def Zsw (o0b : Nat) (n1 : Int) (H5 : Heap) (R : Value -> Heap -> Prop) : Prop :=
 ∃ x47 : Option Addr, H5.cell ⟨o0b, 0, none⟩ = some (Value.pointer x47) ∧
 FnW Tryz.prog Zig ⟨[(Value.pointer x47)]⟩ H5 fun x48v H6 =>
 x48v = (Value.tuple ⟨[]⟩) ∧
 ∃ x53 : Int, H6.cell ⟨o0b, 4, none⟩ = some (Value.int .u32 x53) ∧
 FnW Tryz.prog Zcv ⟨[(Value.int .u32 x53), (Value.int .i64 n1)]⟩ H6 fun x55v H7 =>
 ∃ x55 : Int, x55v = (Value.int .u32 x55) ∧
 Za H7 ⟨o0b, 4, none⟩ (Value.int .u32 x55) fun H8 =>
 ∃ (x62a : Option Addr) (x62n x62c : Nat), H8.cell ⟨o0b, 5, none⟩ = some (Value.slice x62a x62n x62c) ∧
 InC n1 x62n fun x64l =>
 FnW Tryz.prog Zhj ⟨[(Value.slice (if x62c = x64l then x62a else Option.map (fun a => Addr.add a (x64l * 1)) x62a) (x62n - x64l) (x62c - x64l))]⟩ H8 fun x65v H9 =>
 ∃ (x65a : Option Addr) (x65n x65c : Nat), x65v = (Value.slice x65a x65n x65c) ∧
 Za H9 ⟨o0b, 5, none⟩ (Value.slice x65a x65n x65c) fun H10 =>
 ∃ x71 : Int, H10.cell ⟨o0b, 6, none⟩ = some (Value.int .i64 x71) ∧
 Za H10 ⟨o0b, 6, none⟩ (Value.int .i64 (IntKind.wrap .i64 (x71 - n1))) fun H11 =>
 R (Value.tuple ⟨[]⟩) H11
def Zsg (o0b : Nat) (n1 : Int) (x23 : Bool) (H2 : Heap) (R : Value -> Heap -> Prop) : Prop :=
 IfB x23
 (Za H2 ⟨o0b, 1, none⟩ (Value.bool false) fun H3 =>
 ∃ x31 : Option Addr, H3.cell ⟨o0b, 0, none⟩ = some (Value.pointer x31) ∧
 ∃ x35 : Int, H3.cell ⟨o0b, 10, none⟩ = some (Value.int .i64 x35) ∧
 ∃ x40 : Int, H3.cell ⟨o0b, 3, none⟩ = some (Value.int .i64 x40) ∧
 FnW Tryz.prog Zon ⟨[(Value.pointer x31), (Value.int .i64 (min 100000 (IntKind.wrap .i64 (x35 - x40))))]⟩ H3 fun x43v H4 =>
 ∃ x43 : Int, x43v = (Value.int .i64 x43) ∧
 Zsw o0b n1 H4 R)
 (Zsw o0b n1 H2 R)
def Zwo (o0b : Nat) (n1 : Int) (H : Heap) (R : Value -> Heap -> Prop) : Prop :=
 ∃ x8 : Bool, H.cell ⟨o0b, 1, none⟩ = some (Value.bool x8) ∧
 IfB x8
 (∃ x13 : Int, H.cell ⟨o0b, 4, none⟩ = some (Value.int .u32 x13) ∧
 ∃ x18 : Int, H.cell ⟨o0b, 2, none⟩ = some (Value.int .u32 x18) ∧
 FnW Tryz.prog Zfh ⟨[(Value.int .u32 x13), (Value.int .u32 x18)]⟩ H fun x19v H1 =>
 ∃ x19 : Int, x19v = (Value.int .u32 x19) ∧
 Zsg o0b n1 (decide (((IntKind.wrap .i64 x19) : Int) <= n1)) H1 R)
 (Zsg o0b n1 false H R)
theorem Zcet (o0b : Nat) (n1 : Int) (H : Heap) (R : Value -> Heap -> Prop) : Zwo o0b n1 H R = Zc Tryz.prog Zbmv (Zb Tryz.f211) (env0 [(Value.pointer (some ⟨o0b, 0, none⟩)), (Value.int .i64 n1)]) H (RetW Tryz.prog Tryz.f211.results.toList R) := by kernel_rfl
theorem Zbqg (o0b : Nat) (n1 : Int) {H : Heap} {R : Value -> Heap -> Prop} (h : Zwo o0b n1 H fun v H1 => ∀ H2, Shut H H1 H2 -> R v H2) : FnW Tryz.prog Zrz ⟨[(Value.pointer (some ⟨o0b, 0, none⟩)), (Value.int .i64 n1)]⟩ H R := FnW.of_code Zcbk (by kernel_rfl) (Eq.mp (Zcet o0b n1 H _) h)
def Zbje : Plan := ⟨[], [], [], []⟩
theorem Zcjt : Known Tryz.prog Zls Tryz.f212 Zbje (Zb Tryz.f212) := by refine ⟨Tryz.func212, ?_, ?_, ?_, ?_, ?_⟩ <;> kernel_rfl
def Zvd (size0 : Int) (H : Heap) (R : Value -> Heap -> Prop) : Prop :=
 IfB (decide ((size0 : Int) ≥ 0))
 (R (Value.bool (decide ((size0 : Int) <= 65535))) H)
 (R (Value.bool false) H)
theorem Zcbm (size0 : Int) (H : Heap) (R : Value -> Heap -> Prop) : Zvd size0 H R = Zc Tryz.prog Zbje (Zb Tryz.f212) (env0 [(Value.int .i64 size0)]) H (RetW Tryz.prog Tryz.f212.results.toList R) := by kernel_rfl
theorem Zbrv (size0 : Int) {H : Heap} {R : Value -> Heap -> Prop} (h : Zvd size0 H fun v H1 => ∀ H2, Shut H H1 H2 -> R v H2) : FnW Tryz.prog Zls ⟨[(Value.int .i64 size0)]⟩ H R := FnW.of_code Zcjt (by kernel_rfl) (Eq.mp (Zcbm size0 H _) h)
def Zbgl : Plan := ⟨[], [], [], []⟩
theorem Zbyj : Known Tryz.prog Zrc Tryz.f213 Zbgl (Zb Tryz.f213) := by refine ⟨Tryz.func213, ?_, ?_, ?_, ?_, ?_⟩ <;> kernel_rfl
def Zst (size1 : Int) (n3 : Int) (x22 : Int) (x40 : Bool) (H4 : Heap) (R : Value -> Heap -> Prop) : Prop :=
 IfB x40
 (R (Value.tuple ⟨[(Value.int .i64 0), (Value.int .i64 0), (Value.int .i64 0)]⟩) H4)
 (R (Value.tuple ⟨[(Value.int .i64 (IntKind.wrap .i64 x22)), (Value.int .i64 (min (IntKind.wrap .i64 (n3 - (IntKind.wrap .i64 x22))) size1)), (Value.int .i64 0)]⟩) H4)
def Zxe (next0 : Int) (size1 : Int) (from2 : Int) (n3 : Int) (H : Heap) (R : Value -> Heap -> Prop) : Prop :=
 FnW Tryz.prog Zlj ⟨[(Value.int .i64 size1), (Value.int .i64 n3)]⟩ H fun x15v H1 =>
 ∃ x15 : Bool, x15v = (Value.bool x15) ∧
 IfB (!x15)
 (R (Value.tuple ⟨[(Value.int .i64 0), (Value.int .i64 0), (Value.int .i64 2)]⟩) H1)
 (FnW Tryz.prog Zfh ⟨[(Value.int .u32 next0), (Value.int .u32 from2)]⟩ H1 fun x19v H2 =>
 ∃ x19 : Int, x19v = (Value.int .u32 x19) ∧
 FnW Tryz.prog Zfh ⟨[(Value.int .u32 from2), (Value.int .u32 next0)]⟩ H2 fun x22v H3 =>
 ∃ x22 : Int, x22v = (Value.int .u32 x22) ∧
 IfB (decide ((x19 : Int) < (IntKind.wrap .u32 size1)))
 (R (Value.tuple ⟨[(Value.int .i64 0), (Value.int .i64 (min n3 (IntKind.wrap .i64 (size1 - (IntKind.wrap .i64 x19))))), (Value.int .i64 0)]⟩) H3)
 (IfB (decide (((IntKind.wrap .i64 x22) : Int) ≥ n3))
 (Zst size1 n3 x22 true H3 R)
 (Zst size1 n3 x22 ((size1 : Int) == 0) H3 R)))
theorem Zcfl (next0 : Int) (size1 : Int) (from2 : Int) (n3 : Int) (H : Heap) (R : Value -> Heap -> Prop) : Zxe next0 size1 from2 n3 H R = Zc Tryz.prog Zbgl (Zb Tryz.f213) (env0 [(Value.int .u32 next0), (Value.int .i64 size1), (Value.int .u32 from2), (Value.int .i64 n3)]) H (RetW Tryz.prog Tryz.f213.results.toList R) := by kernel_rfl
theorem Zcjh (next0 : Int) (size1 : Int) (from2 : Int) (n3 : Int) {H : Heap} {R : Value -> Heap -> Prop} (h : Zxe next0 size1 from2 n3 H fun v H1 => ∀ H2, Shut H H1 H2 -> R v H2) : FnW Tryz.prog Zrc ⟨[(Value.int .u32 next0), (Value.int .i64 size1), (Value.int .u32 from2), (Value.int .i64 n3)]⟩ H R := FnW.of_code Zbyj (by kernel_rfl) (Eq.mp (Zcfl next0 size1 from2 n3 H _) h)
def Zbbs : Plan := ⟨[], [], [], []⟩
theorem Zbug : Known Tryz.prog Zoa Tryz.f214 Zbbs (Zb Tryz.f214) := by refine ⟨Tryz.func214, ?_, ?_, ?_, ?_, ?_⟩ <;> kernel_rfl
def Zwm (j0b : Nat) (behind1 : Int) (b2 : Int) (H : Heap) (R : Value -> Heap -> Prop) : Prop :=
 FnW Tryz.prog Ziq ⟨[(Value.pointer (some ⟨j0b, 0, none⟩)), (Value.int .i64 behind1)]⟩ H fun x9v H1 =>
 ∃ x9 : Int, x9v = (Value.int .i64 x9) ∧
 ∃ (x13a : Option Addr) (x13n x13c : Nat), H1.cell ⟨j0b, 3, none⟩ = some (Value.slice x13a x13n x13c) ∧
 NilP x13a fun x15q =>
 InB x9 x13n fun x15i =>
 elemAt x15q x15i 1 fun x15p =>
 ∃ x16 : Bool, H1.cell x15p = some (Value.bool x16) ∧
 IfB (!x16)
 (∃ (x21a : Option Addr) (x21n x21c : Nat), H1.cell ⟨j0b, 2, none⟩ = some (Value.slice x21a x21n x21c) ∧
 ∃ (x26a : Option Addr) (x26n x26c : Nat), H1.cell ⟨j0b, 3, none⟩ = some (Value.slice x26a x26n x26c) ∧
 NilP x21a fun x29q =>
 InB x9 x21n fun x29i =>
 elemAt x29q x29i 1 fun x29p =>
 Za H1 x29p (Value.int .u8 b2) fun H2 =>
 NilP x26a fun x30q =>
 InB x9 x26n fun x30i =>
 elemAt x30q x30i 1 fun x30p =>
 Za H2 x30p (Value.bool true) fun H3 =>
 ∃ x34 : Int, H3.cell ⟨j0b, 4, none⟩ = some (Value.int .i64 x34) ∧
 Za H3 ⟨j0b, 4, none⟩ (Value.int .i64 (IntKind.wrap .i64 (x34 + 1))) fun H4 =>
 R (Value.tuple ⟨[]⟩) H4)
 (R (Value.tuple ⟨[]⟩) H1)
theorem Zcid (j0b : Nat) (behind1 : Int) (b2 : Int) (H : Heap) (R : Value -> Heap -> Prop) : Zwm j0b behind1 b2 H R = Zc Tryz.prog Zbbs (Zb Tryz.f214) (env0 [(Value.pointer (some ⟨j0b, 0, none⟩)), (Value.int .i64 behind1), (Value.int .u8 b2)]) H (RetW Tryz.prog Tryz.f214.results.toList R) := by kernel_rfl
theorem Zcbu (j0b : Nat) (behind1 : Int) (b2 : Int) {H : Heap} {R : Value -> Heap -> Prop} (h : Zwm j0b behind1 b2 H fun v H1 => ∀ H2, Shut H H1 H2 -> R v H2) : FnW Tryz.prog Zoa ⟨[(Value.pointer (some ⟨j0b, 0, none⟩)), (Value.int .i64 behind1), (Value.int .u8 b2)]⟩ H R := FnW.of_code Zbug (by kernel_rfl) (Eq.mp (Zcid j0b behind1 b2 H _) h)
def Zbdt : Plan := ⟨[], [(2000000, [3], [.int .i64], [0])], [], []⟩
theorem Zbpt : Known Tryz.prog Zqw Tryz.f215 Zbdt (Zb Tryz.f215) := by refine ⟨Tryz.func215, ?_, ?_, ?_, ?_, ?_⟩ <;> kernel_rfl
def Zsk (j0b : Nat) (n3 : Int) (H1 : Heap) (next2000000 : (Int × Unit) -> Heap -> Prop) (R : Value -> Heap -> Prop) : Prop :=
 ∃ (x7a : Option Addr) (x7n x7c : Nat), H1.cell ⟨j0b, 3, none⟩ = some (Value.slice x7a x7n x7c) ∧
 ∃ x11 : Int, H1.cell ⟨j0b, 1, none⟩ = some (Value.int .i64 x11) ∧
 NilP x7a fun x12q =>
 InB x11 x7n fun x12i =>
 elemAt x12q x12i 1 fun x12p =>
 ∃ x13 : Bool, H1.cell x12p = some (Value.bool x13) ∧
 IfB (!x13)
 (R (Value.int .i64 n3) H1)
 (∃ (x20a : Option Addr) (x20n x20c : Nat), H1.cell ⟨j0b, 5, none⟩ = some (Value.slice x20a x20n x20c) ∧
 ∃ (x24a : Option Addr) (x24n x24c : Nat), H1.cell ⟨j0b, 2, none⟩ = some (Value.slice x24a x24n x24c) ∧
 ∃ x28 : Int, H1.cell ⟨j0b, 1, none⟩ = some (Value.int .i64 x28) ∧
 NilP x24a fun x29q =>
 InB x28 x24n fun x29i =>
 elemAt x29q x29i 1 fun x29p =>
 ∃ x30 : Int, H1.cell x29p = some (Value.int .u8 x30) ∧
 NewW H1 (Obj.cells ⟨[(Value.int .u8 x30)]⟩ Zf) fun x31b H2 =>
 AppW Tryz.prog #[Zi, Zi] Zi [(Value.slice x20a x20n x20c), (Value.slice (some ⟨x31b, 0, none⟩) 1 1)] H2 fun x32v H3 =>
 ∃ (x32a : Option Addr) (x32n x32c : Nat), x32v = (Value.slice x32a x32n x32c) ∧
 Za H3 ⟨j0b, 5, none⟩ (Value.slice x32a x32n x32c) fun H4 =>
 ∃ (x38a : Option Addr) (x38n x38c : Nat), H4.cell ⟨j0b, 3, none⟩ = some (Value.slice x38a x38n x38c) ∧
 ∃ x42 : Int, H4.cell ⟨j0b, 1, none⟩ = some (Value.int .i64 x42) ∧
 NilP x38a fun x43q =>
 InB x42 x38n fun x43i =>
 elemAt x43q x43i 1 fun x43p =>
 Za H4 x43p (Value.bool false) fun H5 =>
 FnW Tryz.prog Ziq ⟨[(Value.pointer (some ⟨j0b, 0, none⟩)), (Value.int .i64 1)]⟩ H5 fun x46v H6 =>
 ∃ x46 : Int, x46v = (Value.int .i64 x46) ∧
 Za H6 ⟨j0b, 1, none⟩ (Value.int .i64 x46) fun H7 =>
 ∃ x52 : Int, H7.cell ⟨j0b, 4, none⟩ = some (Value.int .i64 x52) ∧
 Za H7 ⟨j0b, 4, none⟩ (Value.int .i64 (IntKind.wrap .i64 (x52 - 1))) fun H8 =>
 ∃ x59 : Int, H8.cell ⟨j0b, 0, none⟩ = some (Value.int .u32 x59) ∧
 Za H8 ⟨j0b, 0, none⟩ (Value.int .u32 (IntKind.wrap .u32 (x59 + 1))) fun H9 =>
 next2000000 ((IntKind.wrap .i64 (n3 + 1)), ()) H9)
def Zzl (j0b : Nat) (H : Heap) (R : Value -> Heap -> Prop) : Prop :=
 Zci (Int × Unit) (0, ()) H fun x H next => ∀ _g : Env, Zsk j0b x.1 H next R
theorem Zcdf (j0b : Nat) (H : Heap) (R : Value -> Heap -> Prop) : Zzl j0b H R = Zc Tryz.prog Zbdt (Zb Tryz.f215) (env0 [(Value.pointer (some ⟨j0b, 0, none⟩))]) H (RetW Tryz.prog Tryz.f215.results.toList R) := by kernel_rfl
theorem Zciw (j0b : Nat) {H : Heap} {R : Value -> Heap -> Prop} (h : Zzl j0b H fun v H1 => ∀ H2, Shut H H1 H2 -> R v H2) : FnW Tryz.prog Zqw ⟨[(Value.pointer (some ⟨j0b, 0, none⟩))]⟩ H R := FnW.of_code Zbpt (by kernel_rfl) (Eq.mp (Zcdf j0b H _) h)
def Zbmt : Plan := ⟨[], [], [], []⟩
theorem Zbpo : Known Tryz.prog Zon Tryz.f224 Zbmt (Zb Tryz.f224) := by refine ⟨Tryz.func224, ?_, ?_, ?_, ?_, ?_⟩ <;> kernel_rfl
def Zpk (e0b : Nat) (r1 : Int) (x10 : Bool) (H2 : Heap) (R : Value -> Heap -> Prop) : Prop :=
 IfB x10
 (R (Value.int .i64 2) H2)
 (∃ x21 : Bool, H2.cell ⟨e0b, 3, none⟩ = some (Value.bool x21) ∧
 IfB (!x21)
 ((2 : Int) ≠ 0 ∧
 Za H2 ⟨e0b, 0, none⟩ (Value.int .i64 (IntKind.wrap .i64 (8 * r1))) fun H3 =>
 Za H3 ⟨e0b, 1, none⟩ (Value.int .i64 (IntKind.wrap .i64 (Int.tdiv (IntKind.wrap .i64 (4 * r1)) 2))) fun H4 =>
 Za H4 ⟨e0b, 3, none⟩ (Value.bool true) fun H5 =>
 R (Value.int .i64 0) H5)
 (∃ x40 : Int, H2.cell ⟨e0b, 0, none⟩ = some (Value.int .i64 x40) ∧
 (8 : Int) ≠ 0 ∧
 ∃ x47 : Int, H2.cell ⟨e0b, 1, none⟩ = some (Value.int .i64 x47) ∧
 ∃ x55 : Int, H2.cell ⟨e0b, 1, none⟩ = some (Value.int .i64 x55) ∧
 (4 : Int) ≠ 0 ∧
 Za H2 ⟨e0b, 1, none⟩ (Value.int .i64 (IntKind.wrap .i64 (x47 + (IntKind.wrap .i64 ((max (IntKind.wrap .i64 ((IntKind.wrap .i64 (Int.tdiv x40 8)) - r1)) (IntKind.wrap .i64 (0 - (IntKind.wrap .i64 ((IntKind.wrap .i64 (Int.tdiv x40 8)) - r1))))) - (IntKind.wrap .i64 (Int.tdiv x55 4))))))) fun H6 =>
 ∃ x64 : Int, H6.cell ⟨e0b, 0, none⟩ = some (Value.int .i64 x64) ∧
 ∃ x69 : Int, H6.cell ⟨e0b, 0, none⟩ = some (Value.int .i64 x69) ∧
 (8 : Int) ≠ 0 ∧
 Za H6 ⟨e0b, 0, none⟩ (Value.int .i64 (IntKind.wrap .i64 (x64 + (IntKind.wrap .i64 (r1 - (IntKind.wrap .i64 (Int.tdiv x69 8))))))) fun H7 =>
 R (Value.int .i64 0) H7))
def Zbbh (e0b : Nat) (r1 : Int) (H : Heap) (R : Value -> Heap -> Prop) : Prop :=
 FnW Tryz.prog Zjk ⟨[(Value.pointer (some ⟨e0b, 0, none⟩))]⟩ H fun x8v H1 =>
 ∃ x8 : Bool, x8v = (Value.bool x8) ∧
 IfB (!x8)
 (R (Value.int .i64 1) H1)
 (IfB (decide ((r1 : Int) < 0))
 (Zpk e0b r1 true H1 R)
 (Zpk e0b r1 (decide ((r1 : Int) > 100000)) H1 R))
theorem Zcjp (e0b : Nat) (r1 : Int) (H : Heap) (R : Value -> Heap -> Prop) : Zbbh e0b r1 H R = Zc Tryz.prog Zbmt (Zb Tryz.f224) (env0 [(Value.pointer (some ⟨e0b, 0, none⟩)), (Value.int .i64 r1)]) H (RetW Tryz.prog Tryz.f224.results.toList R) := by kernel_rfl
theorem Zcba (e0b : Nat) (r1 : Int) {H : Heap} {R : Value -> Heap -> Prop} (h : Zbbh e0b r1 H fun v H1 => ∀ H2, Shut H H1 H2 -> R v H2) : FnW Tryz.prog Zon ⟨[(Value.pointer (some ⟨e0b, 0, none⟩)), (Value.int .i64 r1)]⟩ H R := FnW.of_code Zbpo (by kernel_rfl) (Eq.mp (Zcjp e0b r1 H _) h)
def Zbgg : Plan := ⟨[], [], [], []⟩
theorem Zcct : Known Tryz.prog Ziq Tryz.f225 Zbgg (Zb Tryz.f225) := by refine ⟨Tryz.func225, ?_, ?_, ?_, ?_, ?_⟩ <;> kernel_rfl
def Zsi (j0b : Nat) (behind1 : Int) (H : Heap) (R : Value -> Heap -> Prop) : Prop :=
 ∃ x8 : Int, H.cell ⟨j0b, 1, none⟩ = some (Value.int .i64 x8) ∧
 ∃ (x14a : Option Addr) (x14n x14c : Nat), H.cell ⟨j0b, 2, none⟩ = some (Value.slice x14a x14n x14c) ∧
 ((x14n : Int) : Int) ≠ 0 ∧
 R (Value.int .i64 (Int.tmod (IntKind.wrap .i64 (x8 + behind1)) (x14n : Int))) H
theorem Zbsb (j0b : Nat) (behind1 : Int) (H : Heap) (R : Value -> Heap -> Prop) : Zsi j0b behind1 H R = Zc Tryz.prog Zbgg (Zb Tryz.f225) (env0 [(Value.pointer (some ⟨j0b, 0, none⟩)), (Value.int .i64 behind1)]) H (RetW Tryz.prog Tryz.f225.results.toList R) := by kernel_rfl
theorem Zbgs (j0b : Nat) (behind1 : Int) {H : Heap} {R : Value -> Heap -> Prop} (h : Zsi j0b behind1 H fun v H1 => ∀ H2, Shut H H1 H2 -> R v H2) : FnW Tryz.prog Ziq ⟨[(Value.pointer (some ⟨j0b, 0, none⟩)), (Value.int .i64 behind1)]⟩ H R := FnW.of_code Zcct (by kernel_rfl) (Eq.mp (Zbsb j0b behind1 H _) h)
end Go.Proofs.YtaljkjokbdpdoaaGreat
end
