/-
  NUMBERS BY NAME: printed by a program of ours over this translation.
-/
import Derived.Test.YtboagabgpcghcaaGreatDoorED
import Derived.Test.YtboagabgpcghcaaGreatDoorRows
import Derived.Shelf.Strings.Builder1
import Derived.Shelf.Strings.Builder2
import Derived.Shelf.Strings.OnBuilder
import Derived.Shelf.Strings.BuilderF
import Derived.Shelf.Strings.BuilderK
import Derived.Shelf.Strings.Builder2Cap
import Derived.Shelf.Strconv.Itoa0
import Derived.Shelf.Strconv.Itoa1
import Derived.Shelf.LaysM
import Derived.Shelf.Strconv.Itoa2
import Derived.Shelf.Strconv.Itoa3
import Derived.Shelf.LaysC
import Derived.Shelf.Strings.Shaped
import Derived.Shelf.Strings.BuilderCap
import Derived.Ground.SlgnProg
import Derived.Test.YtboagabgpcghcaaGreatDoorProg
set_option linter.all false
section
set_option maxRecDepth 100000
set_option maxHeartbeats 4000000
namespace Go.Proofs.YtboagabgpcghcaaGreatDoor
open Go.Sh
def Zg (fn : Func) : Code := match fn.body with | some c => c | none => .skip
abbrev Zik : TypeId := 3
abbrev Zbdf : TypeId := 4
abbrev Zee : TypeId := 5
abbrev Zcju : TypeId := 9
abbrev Zbfr : TypeId := 22
abbrev Zdh : TypeId := 25
abbrev Zkd : TypeId := 27
abbrev Zdx : TypeId := 28
abbrev Zgl : TypeId := 30
abbrev Zhv : TypeId := 34
abbrev Zbid : TypeId := 49
abbrev Zcao : TypeId := 85
abbrev Zrr : TypeId := 90
abbrev Zdj : TypeId := 93
abbrev Zjv : TypeId := 95
abbrev Zch : TypeId := 113
abbrev Zmm : TypeId := 119
abbrev Ziw : TypeId := 148
abbrev Zcjg : TypeId := 204
abbrev Zblo : FuncId := 4
abbrev Znm : FuncId := 7
abbrev Zvw : FuncId := 10
abbrev Zbbk : FuncId := 11
abbrev Zsm : FuncId := 12
abbrev Zws : FuncId := 13
abbrev Zqx : FuncId := 14
abbrev Zrt : FuncId := 20
abbrev Zzx : FuncId := 24
abbrev Zub : FuncId := 26
abbrev Zwx : FuncId := 27
abbrev Zlx : FuncId := 28
abbrev Zwz : FuncId := 29
abbrev Zxz : FuncId := 34
abbrev Zzt : FuncId := 35
abbrev Ztx : FuncId := 36
abbrev Zuo : FuncId := 37
abbrev Ztd : FuncId := 38
abbrev Zmv : FuncId := 39
abbrev Zbae : FuncId := 40
abbrev Zjs : FuncId := 50
abbrev Zbex : FuncId := 52
abbrev Zzk : FuncId := 53
abbrev Zwg : FuncId := 56
abbrev Zyn : FuncId := 57
abbrev Zgw : FuncId := 58
abbrev Zqp : FuncId := 59
abbrev Zpd : FuncId := 60
abbrev Zsw : FuncId := 61
abbrev Zbcf : FuncId := 62
abbrev Zte : FuncId := 70
abbrev Zbaj : FuncId := 71
abbrev Zis : FuncId := 72
abbrev Zwd : FuncId := 73
abbrev Zzl : FuncId := 74
abbrev Znq : FuncId := 75
abbrev Zly : FuncId := 76
abbrev Zsy : FuncId := 77
abbrev Zua : FuncId := 78
abbrev Zrp : FuncId := 79
abbrev Ztz : FuncId := 80
abbrev Zks : FuncId := 94
abbrev Zyy : FuncId := 95
abbrev Ztt : FuncId := 96
abbrev Zxc : FuncId := 97
abbrev Zgg : FuncId := 98
abbrev Zbat : FuncId := 99
abbrev Zjf : FuncId := 100
abbrev Zqg : FuncId := 101
abbrev Zmw : FuncId := 105
abbrev Zsk : FuncId := 106
abbrev Ztb : FuncId := 107
abbrev Zzm : FuncId := 108
abbrev Zbaa : FuncId := 109
abbrev Zlu : FuncId := 110
abbrev Zuk : FuncId := 111
abbrev Zlp : FuncId := 112
abbrev Zww : FuncId := 123
abbrev Zqo : FuncId := 124
abbrev Zyi : FuncId := 125
abbrev Zbaf : FuncId := 126
abbrev Zpc : FuncId := 127
abbrev Zbhz : FuncId := 128
abbrev Zbbd : FuncId := 129
abbrev Zpn : FuncId := 130
abbrev Zzv : FuncId := 131
abbrev Zst : FuncId := 132
abbrev Zve : FuncId := 133
abbrev Zyb : FuncId := 134
abbrev Zban : FuncId := 135
abbrev Zun : FuncId := 136
abbrev Zcev : FuncId := 155
abbrev Zcif : FuncId := 156
abbrev Zna : FuncId := 157
abbrev Zwe : FuncId := 158
abbrev Zzp : FuncId := 159
abbrev Zuu : FuncId := 160
abbrev Zhf : FuncId := 173
abbrev Zss : FuncId := 174
abbrev Zji : Nat := 3
end Go.Proofs.YtboagabgpcghcaaGreatDoor
end
section
namespace Go.Proofs
open Go.Shelf
def Tryz.lays156_ren : Go.Shelf.Ren := ⟨fun | 156 => 53 | 165 => 90 | 166 => 91 | 169 => 92 | 240 => 120 | 241 => 121 | 276 => 153 | 277 => 154 | n => n, fun | 31 => 75 | 9 => 9 | 3 => 3 | 4 => 4 | 0 => 0 | 20 => 20 | 72 => 136 | 76 => 132 | 70 => 134 | 37 => 22 | 75 => 131 | 127 => 161 | 164 => 184 | 5 => 5 | 80 => 137 | n => n, fun | n => n⟩
theorem Tryz.lays156 : Go.Proofs.Lays.n156 Tryz.prog Tryz.lays156_ren := {
  mixed := by kernel_rfl
  f156 := Tryz.func53.trans (congrArg some (by kernel_rfl))
  f165 := Tryz.func90.trans (congrArg some (by kernel_rfl))
  f166 := Tryz.func91.trans (congrArg some (by kernel_rfl))
  f169 := Tryz.func92.trans (congrArg some (by kernel_rfl))
  f240 := Tryz.func120.trans (congrArg some (by kernel_rfl))
  f241 := Tryz.func121.trans (congrArg some (by kernel_rfl))
  f276 := Tryz.func153.trans (congrArg some (by kernel_rfl))
  f277 := Tryz.func154.trans (congrArg some (by kernel_rfl))
  t0 := Tryz.underlying0
  a0 := Tryz.isAgg0
  z0 := Tryz.sizeOf0
  v0 := Tryz.zeroValue0
  t3 := Tryz.underlying3
  a3 := Tryz.isAgg3
  z3 := Tryz.sizeOf3
  v3 := Tryz.zeroValue3
  t4 := Tryz.underlying4
  a4 := Tryz.isAgg4
  z4 := Tryz.sizeOf4
  v4 := Tryz.zeroValue4
  t9 := Tryz.underlying9
  a9 := Tryz.isAgg9
  z9 := Tryz.sizeOf9
  v9 := Tryz.zeroValue9
  t20 := Tryz.underlying20
  a20 := Tryz.isAgg20
  z20 := Tryz.sizeOf20
  v20 := Tryz.zeroValue20
  t31 := Tryz.underlying75
  a31 := Tryz.isAgg75
  z31 := Tryz.sizeOf75
  v31 := Tryz.zeroValue75
  t37 := Tryz.underlying22
  a37 := Tryz.isAgg22
  z37 := Tryz.sizeOf22
  v37 := Tryz.zeroValue22
  t70 := Tryz.underlying134
  a70 := Tryz.isAgg134
  z70 := Tryz.sizeOf134
  v70 := Tryz.zeroValue134
  t72 := Tryz.underlying136
  a72 := Tryz.isAgg136
  z72 := Tryz.sizeOf136
  v72 := Tryz.zeroValue136
  t75 := Tryz.underlying131
  a75 := Tryz.isAgg131
  z75 := Tryz.sizeOf131
  v75 := Tryz.zeroValue131
  t76 := Tryz.underlying132
  a76 := Tryz.isAgg132
  z76 := Tryz.sizeOf132
  v76 := Tryz.zeroValue132
  t127 := Tryz.underlying161
  a127 := Tryz.isAgg161
  z127 := Tryz.sizeOf161
  v127 := Tryz.zeroValue161
  t164 := Tryz.underlying184
  a164 := Tryz.isAgg184
  z164 := Tryz.sizeOf184
  v164 := Tryz.zeroValue184 }
theorem Tryz.Builder_Extra_156 : Builder.Extra Tryz.prog Tryz.lays156_ren := {
  sizeBuilder := by kernel_rfl
  liesBuilder := by kernel_rfl
  t5 := Tryz.underlying5
  a5 := Tryz.isAgg5
  z5 := Tryz.sizeOf5
  v5 := Tryz.zeroValue5
  infoByte := by kernel_rfl
  cellsByte := by kernel_rfl
  sizeByte := by kernel_rfl
  neB5 := by decide }
open Go.RowKit in
theorem Tryz.strings_Join_none (a : Option Addr) (c : Nat) (sep : ByteArray) (w : World) :
    Calls Tryz.prog 53 #[.slice a 0 c, .string sep] w fun e w' => e = .returned (.string ⟨#[]⟩) ∧ w' = w := Any.strings_Join_none Tryz.lays156 Tryz.Builder_Extra_156 a c sep w
open Go.RowKit in
theorem Tryz.strings_Join (bk o c : Nat) (xs : List ByteArray) (sep : ByteArray) (w : World) (hcells : ∀ (j : Nat) x, xs[j]? = some x -> w.cell? ⟨bk, o + j, none⟩ = some (.string x)) (hbk : bk < w.heap.size) (hN : xs.length <= 140737488355328) (hcap : xs.length <= c) (hlen : (Lib.join (xs.map (·.data.toList)) sep.data.toList).length <= 140737488355328) :
    Calls Tryz.prog 53 #[.slice (some ⟨bk, o, none⟩) xs.length c, .string sep] w fun e w' => e = .returned (.string ⟨(Lib.join (xs.map (·.data.toList)) sep.data.toList).toArray⟩) ∧ Below w.heap.size w w' := Any.strings_Join Tryz.lays156 Tryz.Builder_Extra_156 bk o c xs sep w hcells hbk hN hcap hlen
def Tryz.laysM171_ren : Go.Shelf.Ren := ⟨fun | 171 => 52 | 243 => 89 | 246 => 119 | 283 => 149 | 284 => 150 | 285 => 151 | 286 => 152 | 129 => 168 | 317 => 167 | 318 => 169 | 319 => 170 | 320 => 171 | 337 => 177 | 338 => 178 | n => n, fun | 3 => 3 | 9 => 9 | 2 => 2 | 4 => 4 | 171 => 179 | 0 => 0 | 53 => 85 | 37 => 22 | 5 => 5 | 173 => 182 | 212 => 204 | 51 => 25 | 20 => 20 | 213 => 205 | 46 => 78 | 232 => 219 | 233 => 220 | n => n, fun | 17 => 3 | 18 => 6 | 19 => 7 | n => n⟩
theorem Tryz.laysM171 : Go.Proofs.LaysM.n171 Tryz.prog Tryz.laysM171_ren := {
  mixed := by kernel_rfl
  f129 := Tryz.func168.trans (congrArg some (by kernel_rfl))
  f171 := Tryz.func52.trans (congrArg some (by kernel_rfl))
  f243 := Tryz.func89.trans (congrArg some (by kernel_rfl))
  f246 := Tryz.func119.trans (congrArg some (by kernel_rfl))
  f283 := Tryz.func149.trans (congrArg some (by kernel_rfl))
  f284 := Tryz.func150.trans (congrArg some (by kernel_rfl))
  f285 := Tryz.func151.trans (congrArg some (by kernel_rfl))
  f286 := Tryz.func152.trans (congrArg some (by kernel_rfl))
  f317 := Tryz.func167.trans (congrArg some (by kernel_rfl))
  f318 := Tryz.func169.trans (congrArg some (by kernel_rfl))
  f319 := Tryz.func170.trans (congrArg some (by kernel_rfl))
  f320 := Tryz.func171.trans (congrArg some (by kernel_rfl))
  f337 := Tryz.func177.trans (congrArg some (by kernel_rfl))
  f338 := Tryz.func178.trans (congrArg some (by kernel_rfl))
  t0 := Tryz.underlying0
  a0 := Tryz.isAgg0
  z0 := Tryz.sizeOf0
  v0 := Tryz.zeroValue0
  t2 := Tryz.underlying2
  a2 := Tryz.isAgg2
  z2 := Tryz.sizeOf2
  v2 := Tryz.zeroValue2
  t3 := Tryz.underlying3
  a3 := Tryz.isAgg3
  z3 := Tryz.sizeOf3
  v3 := Tryz.zeroValue3
  t4 := Tryz.underlying4
  a4 := Tryz.isAgg4
  z4 := Tryz.sizeOf4
  v4 := Tryz.zeroValue4
  t5 := Tryz.underlying5
  a5 := Tryz.isAgg5
  z5 := Tryz.sizeOf5
  v5 := Tryz.zeroValue5
  t9 := Tryz.underlying9
  a9 := Tryz.isAgg9
  z9 := Tryz.sizeOf9
  v9 := Tryz.zeroValue9
  t20 := Tryz.underlying20
  a20 := Tryz.isAgg20
  z20 := Tryz.sizeOf20
  v20 := Tryz.zeroValue20
  t37 := Tryz.underlying22
  a37 := Tryz.isAgg22
  z37 := Tryz.sizeOf22
  v37 := Tryz.zeroValue22
  t46 := Tryz.underlying78
  a46 := Tryz.isAgg78
  z46 := Tryz.sizeOf78
  v46 := Tryz.zeroValue78
  t51 := Tryz.underlying25
  a51 := Tryz.isAgg25
  z51 := Tryz.sizeOf25
  v51 := Tryz.zeroValue25
  t53 := Tryz.underlying85
  a53 := Tryz.isAgg85
  z53 := Tryz.sizeOf85
  v53 := Tryz.zeroValue85
  t171 := Tryz.underlying179
  a171 := Tryz.isAgg179
  z171 := Tryz.sizeOf179
  v171 := Tryz.zeroValue179
  t173 := Tryz.underlying182
  a173 := Tryz.isAgg182
  z173 := Tryz.sizeOf182
  v173 := Tryz.zeroValue182
  t212 := Tryz.underlying204
  a212 := Tryz.isAgg204
  z212 := Tryz.sizeOf204
  v212 := Tryz.zeroValue204
  t213 := Tryz.underlying205
  a213 := Tryz.isAgg205
  z213 := Tryz.sizeOf205
  t232 := Tryz.underlying219
  a232 := Tryz.isAgg219
  z232 := Tryz.sizeOf219
  v232 := Tryz.zeroValue219
  t233 := Tryz.underlying220
  a233 := Tryz.isAgg220
  z233 := Tryz.sizeOf220
  v233 := Tryz.zeroValue220
  g17 := by kernel_rfl
  g18 := by kernel_rfl
  g19 := by kernel_rfl
  i0 := by kernel_rfl
  i2 := by kernel_rfl
  i3 := by kernel_rfl
  i4 := by kernel_rfl
  i5 := by kernel_rfl
  i9 := by kernel_rfl
  i20 := by kernel_rfl
  i37 := by kernel_rfl
  i46 := by kernel_rfl
  i51 := by kernel_rfl
  i53 := by kernel_rfl
  i171 := by kernel_rfl
  i173 := by kernel_rfl
  i212 := by kernel_rfl
  i232 := by kernel_rfl
  i233 := by kernel_rfl
  m17 := by kernel_rfl
  m18 := by kernel_rfl
  m19 := by kernel_rfl }
open Go.RowKit Go.Sort Go.Lib in
theorem Tryz.strconv_Itoa (n : Int) (h0 : -9223372036854775808 <= n) (h1 : n <= 9223372036854775807) (w : World) (htab : Lib.TabIs Tryz.prog w "internal/strconv.uint64pow10" .u64 Lib.pow10Tab) :
    Calls Tryz.prog 52 #[.int .i64 n] w fun e w' => e = .returned (.string ⟨(Lib.itoa n).toArray⟩) ∧ ∃ k os, w' = grow (w.drewN k) os := Any.strconv_Itoa Tryz.laysM171 n h0 h1 w htab
end Go.Proofs
end
section
section
set_option maxRecDepth 100000
namespace Go.Proofs.YtboagabgpcghcaaGreatDoor
open Go.Sh
def Zbrl : Plan := ⟨[], [], [], []⟩
theorem Zchx : Known Tryz.prog Zjs Tryz.f50 Zbrl (Zg Tryz.f50) := by refine ⟨Tryz.func50, ?_, ?_, ?_, ?_, ?_⟩ <;> kernel_rfl
def Zbdz (a0 : Int) (n1 : Int) (H : Heap) (R : Value -> Heap -> Prop) : Prop :=
 (0 : Int) <= (IntKind.wrap .i64 (32 - n1)) ∧
 R (Value.int .u32 (Zrf .u32 a0 (IntKind.wrap .u32 (IntKind.wrap .u64 ((IntKind.wrap .u64 (1 * 2 ^ (min ((IntKind.wrap .i64 (32 - n1)) : Int).toNat (IntKind.bits .u64)))) - 1))))) H
theorem Zchl (a0 : Int) (n1 : Int) (H : Heap) (R : Value -> Heap -> Prop) : Zbdz a0 n1 H R = Zc Tryz.prog Zbrl (Zg Tryz.f50) (env0 [(Value.int .u32 a0), (Value.int .i64 n1)]) H (RetW Tryz.prog Tryz.f50.results.toList R) := by kernel_rfl
theorem Zcss (a0 : Int) (n1 : Int) {H : Heap} {R : Value -> Heap -> Prop} (h : Zbdz a0 n1 H fun v H1 => ∀ H2, Shut H H1 H2 -> R v H2) : FnW Tryz.prog Zjs ⟨[(Value.int .u32 a0), (Value.int .i64 n1)]⟩ H R := FnW.of_code Zchx (by kernel_rfl) (Eq.mp (Zchl a0 n1 H _) h)
def Zbvi : Plan := ⟨[], [], [], []⟩
theorem Zcrb : Known Tryz.prog Zis Tryz.f72 Zbvi (Zg Tryz.f72) := by refine ⟨Tryz.func72, ?_, ?_, ?_, ?_, ?_⟩ <;> kernel_rfl
def Zbxp (n0 : Int) (H : Heap) (R : Value -> Heap -> Prop) : Prop :=
 (8 : Int) ≠ 0 ∧
 R (Value.int .i64 (IntKind.wrap .i64 (Int.tdiv (IntKind.wrap .i64 ((IntKind.wrap .i64 (n0 + 8)) - 1)) 8))) H
theorem Zcpc (n0 : Int) (H : Heap) (R : Value -> Heap -> Prop) : Zbxp n0 H R = Zc Tryz.prog Zbvi (Zg Tryz.f72) (env0 [(Value.int .i64 n0)]) H (RetW Tryz.prog Tryz.f72.results.toList R) := by kernel_rfl
theorem Zcuk (n0 : Int) {H : Heap} {R : Value -> Heap -> Prop} (h : Zbxp n0 H fun v H1 => ∀ H2, Shut H H1 H2 -> R v H2) : FnW Tryz.prog Zis ⟨[(Value.int .i64 n0)]⟩ H R := FnW.of_code Zcrb (by kernel_rfl) (Eq.mp (Zcpc n0 H _) h)
def Zblu : Plan := ⟨[], [(0, [], [], [0, 1]), (7, [5, 34], [.int .u32, .int .i64], [0, 1, 3, 4, 32, 33])], [], []⟩
theorem Zcob : Known Tryz.prog Zqg Tryz.f101 Zblu (Zg Tryz.f101) := by refine ⟨Tryz.func101, ?_, ?_, ?_, ?_, ?_⟩ <;> kernel_rfl
def Zbkp (l : Nat) (b1 : Nat) (x13 : Int) (x16 : Int) (x29c : Nat) (x32l : Nat) (x29a : Option Addr) (x32h : Nat) (next0 : (Unit) -> Heap -> Prop) (a5 : Int) (x34 : Int) (H5 : Heap) (next7 : (Int × Int × Unit) -> Heap -> Prop) (R : Value -> Heap -> Prop) : Prop :=
 IfB (decide ((x34 : Int) < ((x32h - x32l : Nat) : Int)))
 (NilP (if x29c = x32l then x29a else Option.map (fun a => Addr.add a (x32l * 1)) x29a) fun x37q =>
 InB x34 (x32h - x32l) fun x37i =>
 elemAt x37q x37i 1 fun x37p =>
 ∃ x38 : Int, H5.cell x37p = some (Value.int .u8 x38) ∧
 (0 : Int) <= (IntKind.wrap .i64 (24 - (IntKind.wrap .i64 (8 * x34)))) ∧
 next7 ((Zeo .u32 a5 (IntKind.wrap .u32 ((IntKind.wrap .u32 x38) * 2 ^ (min ((IntKind.wrap .i64 (24 - (IntKind.wrap .i64 (8 * x34)))) : Int).toNat (IntKind.bits .u32))))), ((IntKind.wrap .i64 (x34 + 1)), ())) H5)
 (FnW Tryz.prog Zjs ⟨[(Value.int .u32 a5), (Value.int .i64 (IntKind.wrap .i64 x13))]⟩ H5 fun x51v H6 =>
 ∃ x51 : Int, x51v = (Value.int .u32 x51) ∧
 Zfa Tryz.prog l [(Value.agg ⟨[(Value.int .u32 x51), (Value.int .i64 (IntKind.wrap .i64 x13))]⟩), (Value.bool true)] H6 fun x54v H7 =>
 ∃ x54 : Bool, x54v = (Value.bool x54) ∧
 IfB (!x54)
 (R (Value.tuple ⟨[]⟩) H7)
 (∃ (x56a : Option Addr) (x56n x56c : Nat), H7.cell ⟨b1, 0, none⟩ = some (Value.slice x56a x56n x56c) ∧
 InC (IntKind.wrap .i64 (1 + x16)) x56n fun x59l =>
 Zi H7 ⟨b1, 0, none⟩ (Value.slice (if x56c = x59l then x56a else Option.map (fun a => Addr.add a (x59l * 1)) x56a) (x56n - x59l) (x56c - x59l)) fun H8 =>
 next0 () H8))
def Zmp (l : Nat) (b1 : Nat) (x13 : Int) (x16 : Int) (next0 : (Unit) -> Heap -> Prop) (x25 : Bool) (H3 : Heap) (R : Value -> Heap -> Prop) : Prop :=
 IfB x25
 (Zfa Tryz.prog l [(Value.agg ⟨[(Value.int .u32 0), (Value.int .i64 0)]⟩), (Value.bool false)] H3 fun x28v H4 =>
 ∃ x28 : Bool, x28v = (Value.bool x28) ∧
 R (Value.tuple ⟨[]⟩) H4)
 (∃ (x29a : Option Addr) (x29n x29c : Nat), H3.cell ⟨b1, 0, none⟩ = some (Value.slice x29a x29n x29c) ∧
 InC (IntKind.wrap .i64 (1 + x16)) x29c fun x32h =>
 InC 1 x32h fun x32l =>
 Zkm (Int × Int × Unit) (0, (0, ())) H3 fun x H next => ∀ _g : Env, Zbkp l b1 x13 x16 x29c x32l x29a x32h next0 x.1 x.2.1 H next R)
def Zbjj (l : Nat) (b1 : Nat) (H1 : Heap) (next0 : (Unit) -> Heap -> Prop) (R : Value -> Heap -> Prop) : Prop :=
 ∃ (x8a : Option Addr) (x8n x8c : Nat), H1.cell ⟨b1, 0, none⟩ = some (Value.slice x8a x8n x8c) ∧
 IfB (decide (((x8n : Int) : Int) > 0))
 (∃ (x11a : Option Addr) (x11n x11c : Nat), H1.cell ⟨b1, 0, none⟩ = some (Value.slice x11a x11n x11c) ∧
 NilP x11a fun x12q =>
 InB 0 x11n fun x12i =>
 elemAt x12q x12i 1 fun x12p =>
 ∃ x13 : Int, H1.cell x12p = some (Value.int .u8 x13) ∧
 FnW Tryz.prog Zis ⟨[(Value.int .i64 (IntKind.wrap .i64 x13))]⟩ H1 fun x16v H2 =>
 ∃ x16 : Int, x16v = (Value.int .i64 x16) ∧
 IfB (decide (((IntKind.wrap .i64 x13) : Int) > 32))
 (Zmp l b1 x13 x16 next0 true H2 R)
 (∃ (x21a : Option Addr) (x21n x21c : Nat), H2.cell ⟨b1, 0, none⟩ = some (Value.slice x21a x21n x21c) ∧
 Zmp l b1 x13 x16 next0 (decide ((x16 : Int) > (IntKind.wrap .i64 ((x21n : Int) - 1)))) H2 R))
 (R (Value.tuple ⟨[]⟩) H1)
def Zbcm (l : Nat) (b1 : Nat) (H : Heap) (R : Value -> Heap -> Prop) : Prop :=
 Zkm (Unit) () H fun x H next => ∀ _g : Env, Zbjj l b1 H next R
theorem Zccd (l : Nat) (b1 : Nat) (H : Heap) (R : Value -> Heap -> Prop) : Zbcm l b1 H R = Zc Tryz.prog Zblu (Zg Tryz.f101) (env0 [(Value.func (.yield l) #[] #[]), (Value.pointer (some ⟨b1, 0, none⟩))]) H (RetW Tryz.prog Tryz.f101.results.toList R) := by kernel_rfl
theorem Zchr (l : Nat) (b1 : Nat) {H : Heap} {R : Value -> Heap -> Prop} (h : Zbcm l b1 H fun v H1 => ∀ H2, Shut H H1 H2 -> R v H2) : FnW Tryz.prog Zqg ⟨[(Value.func (.yield l) #[] #[]), (Value.pointer (some ⟨b1, 0, none⟩))]⟩ H R := FnW.of_code Zcob (by kernel_rfl) (Eq.mp (Zccd l b1 H _) h)
def Zbky : Plan := ⟨[], [(1, [4], [.int .i64], [0, 1, 2])], [], []⟩
theorem Zcsb : Known Tryz.prog Zhf Tryz.f173 Zbky (Zg Tryz.f173) := by refine ⟨Tryz.func173, ?_, ?_, ?_, ?_, ?_⟩ <;> kernel_rfl
def Zbur (l : Nat) (b1 : Nat) (b2 : Nat) (i4 : Int) (H1 : Heap) (next1 : (Int × Unit) -> Heap -> Prop) (R : Value -> Heap -> Prop) : Prop :=
 ∃ (x7a : Option Addr) (x7n x7c : Nat), H1.cell ⟨b1, 0, none⟩ = some (Value.slice x7a x7n x7c) ∧
 IfB (decide ((i4 : Int) < (x7n : Int)))
 (∃ x13 : Int, H1.cell ⟨b2, 0, none⟩ = some (Value.int .i64 x13) ∧
 ∃ (x14a : Option Addr) (x14n x14c : Nat), H1.cell ⟨b1, 0, none⟩ = some (Value.slice x14a x14n x14c) ∧
 InC i4 x14n fun x16l =>
 ∃ (x20a : Option Addr) (x20n x20c : Nat), H1.cell ⟨b1, 0, none⟩ = some (Value.slice x20a x20n x20c) ∧
 InC (IntKind.wrap .i64 (i4 + (min x13 ((x14n - x16l : Nat) : Int)))) x20c fun x28m =>
 InC (IntKind.wrap .i64 (i4 + (min x13 ((x14n - x16l : Nat) : Int)))) x28m fun x28h =>
 InC i4 x28h fun x28l =>
 Zfa Tryz.prog l [(Value.slice (if x28m = x28l then x20a else Option.map (fun a => Addr.add a (x28l * 1)) x20a) (x28h - x28l) (x28m - x28l))] H1 fun x29v H2 =>
 ∃ x29 : Bool, x29v = (Value.bool x29) ∧
 IfB (!x29)
 (R (Value.tuple ⟨[]⟩) H2)
 (∃ x11 : Int, H2.cell ⟨b2, 0, none⟩ = some (Value.int .i64 x11) ∧
 next1 ((IntKind.wrap .i64 (i4 + x11)), ()) H2))
 (R (Value.tuple ⟨[]⟩) H1)
def Zbcn (l : Nat) (b1 : Nat) (b2 : Nat) (H : Heap) (R : Value -> Heap -> Prop) : Prop :=
 Zkm (Int × Unit) (0, ()) H fun x H next => ∀ _g : Env, Zbur l b1 b2 x.1 H next R
theorem Zcep (l : Nat) (b1 : Nat) (b2 : Nat) (H : Heap) (R : Value -> Heap -> Prop) : Zbcn l b1 b2 H R = Zc Tryz.prog Zbky (Zg Tryz.f173) (env0 [(Value.func (.yield l) #[] #[]), (Value.pointer (some ⟨b1, 0, none⟩)), (Value.pointer (some ⟨b2, 0, none⟩))]) H (RetW Tryz.prog Tryz.f173.results.toList R) := by kernel_rfl
theorem Zbyp (l : Nat) (b1 : Nat) (b2 : Nat) {H : Heap} {R : Value -> Heap -> Prop} (h : Zbcn l b1 b2 H fun v H1 => ∀ H2, Shut H H1 H2 -> R v H2) : FnW Tryz.prog Zhf ⟨[(Value.func (.yield l) #[] #[]), (Value.pointer (some ⟨b1, 0, none⟩)), (Value.pointer (some ⟨b2, 0, none⟩))]⟩ H R := FnW.of_code Zcsb (by kernel_rfl) (Eq.mp (Zcep l b1 b2 H _) h)
end Go.Proofs.YtboagabgpcghcaaGreatDoor
end
section
namespace Go.Proofs.YtboagabgpcghcaaGreatDoor
open Go.Sh
def Zxm : Array Value := (Lib.pow10Tab.map fun z => Value.int .u64 z).toArray
instance : Laid where
  blocks := fun b => Nat.beq b Zji
  ok := fun L => ∃ T fr, L Zji = some (.cells Zxm T fr)
theorem Zcin {W : World} (h : Laid.ok (layH (hp W))) : ∃ T fr, W.heap[Zji]? = some (.cells Zxm T fr) := h
theorem rest_of {W W' : World} (h1 : W'.os = W.os) (h2 : W'.tape = W.tape) (h3 : W'.output = W.output) (h : ∀ (b : Nat) o, W.heap[b]? = some o -> W'.heap[b]? = some o) : Go.Sh.Rest W W' := by
  refine ⟨h1, h2, h3, fun b ds hb => h b _ hb, ?_⟩; cases hs : W.heap.size with
  | zero => omega
  | succ n =>
    have := h n _ (Array.getElem?_eq_getElem (by omega))
    have := (Array.getElem?_eq_some_iff.1 this).1; omega
end Go.Proofs.YtboagabgpcghcaaGreatDoor
namespace Go.Proofs.YtboagabgpcghcaaGreatDoor
open Go.Sh
theorem Zbtp : Tryz.prog.globalNamed "internal/strconv.uint64pow10" = some Zji := by kernel_rfl
abbrev Zur : List Pk := [Pk.int .i64]
abbrev Zup : List Pk := [Pk.str]
def Zlc (n : Int) (K : List UInt8 -> Prop) : Prop := K (Lib.itoa n)
theorem Zcer (n : Int) (h0 : -9223372036854775808 <= n) (h1 : n <= 9223372036854775807) : (Lib.itoa n).length <= Zp := by
  have hd : ∀ u : Nat, (Lib.decDigits u).length <= u + 1 := by
    intro u; induction u using Nat.strongRecOn with
    | _ u ih =>
      unfold Lib.decDigits; split; simp
      . have := ih (u / 10) (by omega)
        simp only [List.length_append, List.length_cons, List.length_nil]; omega
  have hd2 : ∀ u : Nat, u < 9223372036854775809 -> (Lib.decDigits u).length <= 100000000000000000 + 1 := by intro u hu; unfold Lib.decDigits; split; simp; have h2 := hd (u / 10 / 10); unfold Lib.decDigits; split; simp; simp only [List.length_append, List.length_cons, List.length_nil]; omega
  unfold Lib.itoa Zp; split
  . have := hd2 n.natAbs (by omega)
    simp only [List.length_cons]; omega
  . have := hd2 n.toNat (by omega)
    omega
theorem Zbzv : FnQ Tryz.prog Zbex Zur Zup (fun x K => Zlc x.1 (fun r0 => K (r0, ()))) := by
  refine Zbub rfl ⟨_, Tryz.func52, by kernel_rfl, by kernel_rfl⟩ fun x K hx W g vs hz hs hl => ?_
  simp only [pksA, pkA] at hs; cases vs with
  | nil => simp only [SimL] at hs
  | cons v vs =>
    simp only [SimL, SimV] at hs; obtain ⟨⟨rfl, hr⟩, hs⟩ := hs; cases vs with
    | cons => simp only [SimL] at hs
    | nil =>
      obtain ⟨T, fr, hg⟩ := Zcin hl; have htab : Lib.TabIs Tryz.prog W "internal/strconv.uint64pow10" .u64 Lib.pow10Tab := by
        unfold Lib.TabIs World.var?
        rw [Zbtp]; simp only [Option.bind_some, hg]; rfl
      simp only [InR, loI, hiI] at hr; refine (Tryz.strconv_Itoa x.1 hr.1 hr.2 W htab).mono fun e W' ⟨he, k, os, hw⟩ => ?_; refine ⟨(Lib.itoa x.1, ()), _, he, ?_, hx, ?_, ?_⟩; simp only [pksA, pkA, outA, SimV, bstr]; exact ⟨trivial, Zcer _ hr.1 hr.2⟩
      . subst hw; have hsm : ∀ b, hp W b ≠ none -> hp (Go.Sort.grow (W.drewN k) os) b = hp W b := fun b hb => by simp only [hp, Go.Sort.grow, World.heap_drewN] at hb ⊢; rw [Array.getElem?_append]; rw [if_pos]; rcases Nat.lt_or_ge b W.heap.size with h | h; exact h; exact absurd (by simp [h]) hb
        exact ⟨fun b _ hb => hsm b hb, fun b hb => by rw [hsm b hb]; exact hb⟩
      . subst hw; exact rest_of rfl rfl rfl fun b o h => by simp only [Go.Sort.grow, World.heap_drewN]; rw [Array.getElem?_append, if_pos (Array.getElem?_eq_some_iff.1 h).1]; exact h
noncomputable def Zbrh : Ct := ctRd Zur Zup (fun x K => Zlc x.1 (fun r0 => K (r0, ())))
theorem Zcdp : Zk Tryz.prog Zbex Zbrh := Zbw Zbzv
end Go.Proofs.YtboagabgpcghcaaGreatDoor
namespace Go.Proofs.YtboagabgpcghcaaGreatDoor
open Go.Sh
abbrev Zbgz : List Pk := [Pk.lst [Kd.str], Pk.str]
abbrev Zbcr : List Pk := [Pk.str]
def Zya (xs : List (List UInt8)) (sep : List UInt8) (K : List UInt8 -> Prop) : Prop := xs.length <= 140737488355328 ∧ (Lib.join xs sep).length <= 140737488355328 ∧ K (Lib.join xs sep)
theorem Zctm {W : World} {g : Gh} {xs : List (List UInt8)} {sep : List UInt8} {v : Value} (hv : Zb g.Z (hp W) (.lst [.str]) xs v) (h1 : xs.length <= 140737488355328) (h2 : (Lib.join xs sep).length <= 140737488355328) :
    Calls Tryz.prog Zzk ⟨[v, .string (bstr sep)]⟩ W fun e W' => e = .returned (.string (bstr (Lib.join xs sep))) ∧ Go.RowKit.Below W.heap.size W W' := by
  simp only [Zb] at hv; obtain ⟨a, n, c, rfl, hn, hnc, hcm, hc⟩ := hv; have hn : xs.length = n := hn; rcases Nat.eq_zero_or_pos n with h0 | h0; subst h0; have hnil : xs = [] := List.eq_nil_of_length_eq_zero hn; refine (Tryz.strings_Join_none a c (bstr sep) W).mono fun e W' ⟨he, hw⟩ => ⟨?_, ?_⟩; rw [he, hnil]; rfl; subst hw; exact .refl _ _
  . obtain ⟨b, o, rfl, hzb, cs, T, fr, hb, hcs⟩ := hc h0; have hbs : b < W.heap.size := by
      rcases Nat.lt_or_ge b W.heap.size with h | h; exact h
      . have : hp W b = none := by simp [hp, h]
        rw [this] at hb; cases hb
    have hmap : (xs.map bstr).map (·.data.toList) = xs := by
      rw [List.map_map]
      conv => rhs; rw [← List.map_id xs]
      exact List.map_congr_left fun s _ => by simp [bstr]
    have := Tryz.strings_Join b o c (xs.map bstr) (bstr sep) W (fun j s hj => by
      rw [List.getElem?_map] at hj; cases hx : xs[j]? with
      | none => rw [hx] at hj; cases hj
      | some t =>
        rw [hx] at hj; cases hj; have h3 := hcs j t hx; simp only [Zd, Zb] at h3; obtain ⟨⟨v, h4, h5, _⟩, _⟩ := h3; simp only [List.length_cons, List.length_nil, Nat.zero_add, Nat.mul_one, Nat.add_zero] at h4; have hb' : W.heap[b]? = some (.cells cs T fr) := hb; simp only [World.cell?, hb', Option.isSome_none, Bool.false_eq_true, if_false]; rw [h4, h5]; rfl) hbs (by simpa using h1) (by simp; omega) (by
        rw [hmap]; exact h2)
    rw [hmap] at this; have e1 : (xs.map bstr).length = n := by simp [hn]
    rw [e1] at this; exact this
theorem Zcnl : FnQ Tryz.prog Zzk Zbgz Zbcr (fun x K => Zya x.1 x.2.1 (fun r0 => K (r0, ()))) := by
  refine Zbub rfl ⟨_, Tryz.func53, by kernel_rfl, by kernel_rfl⟩ fun x K hx W g vs hz hs hl => ?_
  simp only [pksA, pkA, Zbz] at hs; cases vs with
  | nil => simp only [SimL] at hs
  | cons v vs =>
  cases vs with
  | nil => simp only [SimL] at hs; exact hs.2.elim
  | cons u vs =>
  cases vs with
  | cons => simp only [SimL] at hs; exact hs.2.2.elim
  | nil =>
    simp only [SimL, SimV] at hs; obtain ⟨hv, ⟨rfl, _⟩, _⟩ := hs; obtain ⟨h1, h2, hk⟩ := hx; refine (Zctm hv h1 h2).mono fun e W' ⟨he, hb⟩ => ?_; obtain ⟨hkp, hr⟩ := Zcqy hb; refine ⟨(Lib.join x.1 x.2.1, ()), _, he, ?_, hk, hkp, hr⟩; simp only [pksA, pkA, outA, SimV]; exact ⟨trivial, by unfold Zp; omega⟩
noncomputable def Zbwy : Ct := ctRd Zbgz Zbcr (fun x K => Zya x.1 x.2.1 (fun r0 => K (r0, ())))
theorem Zbzm : Zk Tryz.prog Zzk Zbwy := Zbw Zcnl
end Go.Proofs.YtboagabgpcghcaaGreatDoor
namespace Go.Proofs.YtboagabgpcghcaaGreatDoor
open Go.Sh
theorem Zrd (a : Nat) (h : a <= 9223372036854775807) : IntKind.wrap .i64 (a : Int) = (a : Int) := Zj (by omega) (by omega)
theorem Zcas (n a : Nat) (ha : a < 2 ^ n) (k : Nat) (hk : k <= n) : a &&& (2 ^ n - 1 - (2 ^ k - 1)) = a - a % 2 ^ k := by
  have hpk : 2 ^ k <= 2 ^ n := Nat.pow_le_pow_right (by decide) hk
  have h0 : 0 < 2 ^ k := Nat.two_pow_pos k; apply Nat.eq_of_testBit_eq; intro i; rw [Nat.testBit_and, show 2 ^ n - 1 - (2 ^ k - 1) = 2 ^ n - ((2 ^ k - 1) + 1) by omega, Nat.testBit_two_pow_sub_succ (by omega), Nat.testBit_two_pow_sub_one]
  have e : a - a % 2 ^ k = 2 ^ k * (a / 2 ^ k) := by have := Nat.div_add_mod a (2 ^ k); omega
  rw [e, Nat.testBit_two_pow_mul]; by_cases hi : i < k; simp [hi]; intro _; omega
  . rw [Nat.testBit_div_two_pow, show i - k + k = i by omega]
    by_cases hn : i < n; simp [hi, hn]; omega
    . have : a.testBit i = false := Nat.testBit_lt_two_pow (Nat.lt_of_lt_of_le ha (Nat.pow_le_pow_right (by decide) (by omega)))
      simp [this]
theorem Zblc (a : Nat) (ha : a < 4294967296) (k : Nat) (hk : k <= 32) : Zrf .u32 (a : Int) ((2 ^ k - 1 : Nat) : Int) = ((a - a % 2 ^ k : Nat) : Int) := by
  have hp : 2 ^ k <= 2 ^ 32 := Nat.pow_le_pow_right (by decide) hk
  have h0 : 0 < 2 ^ k := Nat.two_pow_pos k; have e32 : (2 : Nat) ^ 32 = 4294967296 := rfl; unfold Zrf; have hb : IntKind.bits .u32 = 32 := rfl; rw [hb, Znh 32 a (by omega), Znh 32 (2 ^ k - 1) (by omega), BitVec.toNat_and, BitVec.toNat_not, BitVec.toNat_ofNat, BitVec.toNat_ofNat, Nat.mod_eq_of_lt (by omega), Nat.mod_eq_of_lt (by omega)]
  rw [Zcas 32 a (by omega) k hk, wu32 (by omega)]
def Zgq (n : Nat) : Nat := 2 ^ (32 - n)
theorem Zyf (a : Nat) (h : a < 18446744073709551616) : IntKind.wrap .u64 (a : Int) = (a : Int) := by rw [Zcbi]; omega
end Go.Proofs.YtboagabgpcghcaaGreatDoor
set_option maxHeartbeats 1000000
namespace Go.Proofs.YtboagabgpcghcaaGreatDoor
open Go.Sh
abbrev PfB := (UInt32 × Int) × Bool × Unit
def oct8 (n : Nat) : Nat := (n + 7) / 8
def Zgp (a : Int) (j : Nat) (x : UInt8) : Int := Zeo .u32 a (IntKind.wrap .u32 (IntKind.wrap .u32 (x.toNat : Int) * 2 ^ (min (24 - 8 * j) 32)))
def pxF : Nat -> Int -> List UInt8 -> Int
  | _, a, [] => a
  | j, a, x :: r => pxF (j + 1) (Zgp a j x) r
theorem Zbwk (x : UInt8) : ∀ (l : List UInt8) (j : Nat) (a : Int), pxF j a (l ++ [x]) = Zgp (pxF j a l) (j + l.length) x
  | [], _, _ => rfl
  | y :: l, j, a => by show pxF (j + 1) _ (l ++ [x]) = _; rw [Zbwk x l (j + 1)]; show Zgp (pxF (j + 1) (Zgp a j y) l) (j + 1 + l.length) x = Zgp (pxF (j + 1) (Zgp a j y) l) (j + (l.length + 1)) x; rw [show j + 1 + l.length = j + (l.length + 1) by omega]
theorem Zcaj (a : Int) (j : Nat) (x : UInt8) : 0 <= Zgp a j x ∧ Zgp a j x < 4294967296 := by unfold Zgp Zeo; rw [Zbrm]; omega
theorem Zbok : ∀ (l : List UInt8) (j : Nat) (a : Int), 0 <= a ∧ a < 4294967296 -> 0 <= pxF j a l ∧ pxF j a l < 4294967296
  | [], _, _, h => h
  | x :: r, j, a, _ => Zbok r (j + 1) _ (Zcaj a j x)
def pxN (l : List UInt8) : Nat := (pxF 0 0 l).toNat
theorem Zcqt (l : List UInt8) : pxF 0 0 l = (pxN l : Int) ∧ pxN l < 4294967296 := by
  have := Zbok l 0 0 ⟨by decide, by decide⟩
  unfold pxN; omega
def Zxa (n : Nat) (l : List UInt8) : UInt32 × Int := (UInt32.ofNat (pxN l - pxN l % Zgq n), (n : Int))
def Zgi : Nat -> List UInt8 -> List PfB
  | 0, _ => []
  | _ + 1, [] => []
  | f + 1, x :: r => if x.toNat <= 32 ∧ oct8 x.toNat <= r.length then (Zxa x.toNat (r.take (oct8 x.toNat)), true, ()) :: Zgi f (r.drop (oct8 x.toNat)) else [((0, 0), false, ())]
theorem Zbwl : ∀ (k k' : Nat) (s : List UInt8), s.length <= k -> s.length <= k' -> Zgi k s = Zgi k' s
  | 0, 0, s, _, _ => rfl
  | 0, k' + 1, [], _, _ => rfl
  | 0, _ + 1, _ :: _, h, _ => by simp at h
  | k + 1, 0, [], _, _ => rfl
  | _ + 1, 0, _ :: _, _, h => by simp at h
  | k + 1, k' + 1, [], _, _ => rfl
  | k + 1, k' + 1, x :: r, h, h' => by
    simp only [Zgi]; have e : (r.drop (oct8 x.toNat)).length <= r.length := by simp only [List.length_drop]; omega
    simp only [List.length_cons] at h h'; rw [Zbwl k k' _ (by omega) (by omega)]
def Zbi (s : List UInt8) : List PfB := Zgi s.length s
theorem Zbjz {x : UInt8} {r : List UInt8} (h : ¬ (x.toNat <= 32 ∧ oct8 x.toNat <= r.length)) : Zbi (x :: r) = [((0, 0), false, ())] := by unfold Zbi; simp only [List.length_cons, Zgi]; rw [if_neg h]
theorem Zbqn {x : UInt8} {r : List UInt8} (h : x.toNat <= 32 ∧ oct8 x.toNat <= r.length) : Zbi (x :: r) = (Zxa x.toNat (r.take (oct8 x.toNat)), true, ()) :: Zbi (r.drop (oct8 x.toNat)) := by unfold Zbi; simp only [List.length_cons, Zgi]; rw [if_pos h, Zbwl r.length _ _ (by simp only [List.length_drop]; omega) (Nat.le_refl _)]
def Zhq : It := ⟨[.agg [.int .u32, .int .i64], .bool], [.lst [.int .u8]], fun c => Zbi c.1, fun c => c.1.length <= 4611686018427387904⟩
theorem Zcul {Z : Nat -> Prop} {H : Heap} {s : List UInt8} {a : Option Addr} {n c : Nat} (h : Zb Z H (.lst [.int .u8]) s (.slice a n c)) {k : Nat} (hk : k <= n) :
    Zb Z H (.lst [.int .u8]) (s.drop k) (.slice (if c = k then a else Option.map (fun a => Addr.add a (k * 1)) a) (n - k) (c - k)) := by
  simp only [Zb] at h ⊢; obtain ⟨a', n', c', e, hl, hnc, hcm, hat⟩ := h; cases e; have hl : s.length = n := hl; refine ⟨_, _, _, rfl, ?_, by omega, by omega, fun h0 => ?_⟩
  show (s.drop k).length = _; rw [List.length_drop, hl]
  . obtain ⟨b, o, rfl, hz, cs, T, fr, hb, hc⟩ := hat (by omega)
    rw [if_neg (by omega)]
    refine ⟨b, o + k, by simp [Addr.add], hz, cs, T, fr, hb, fun i x hx => ?_⟩
    have hx : (s.drop k)[i]? = some x := hx; rw [List.getElem?_drop] at hx; refine Zd.congr (fun jj _ => ?_) (hc (k + i) x hx); congr 1; simp only [List.length_cons, List.length_nil]; omega
theorem Zbtb {Z : Nat -> Prop} {H : Heap} {s : List UInt8} {a : Option Addr} {n c : Nat} (h : Zb Z H (.lst [.int .u8]) s (.slice a n c)) {i : Nat} {x : UInt8} (hx : s[i]? = some x) :
    ∃ b o, a = some ⟨b, o, none⟩ ∧ Z b ∧ ∀ H' : Heap, H' b = H b -> H'.cell ⟨b, o + i, none⟩ = some (.int .u8 (x.toNat : Int)) := by
  simp only [Zb] at h; obtain ⟨a', n', c', e, hl, hnc, hcm, hat⟩ := h; cases e; have hl : s.length = n := hl; have hi : i < s.length := (List.getElem?_eq_some_iff.1 hx).1; obtain ⟨b, o, rfl, hz, cs, T, fr, hb, hc⟩ := hat (by omega)
  refine ⟨b, o, rfl, hz, fun H' he => ?_⟩; have h2 := hc i x hx; simp only [Zd, Zb, List.length_cons, List.length_nil, Nat.zero_add, Nat.mul_one, Nat.add_zero] at h2; obtain ⟨⟨v, h3, h4, _⟩, _⟩ := h2; unfold Heap.cell; simp only [he, hb]; show cs[o + i]? = _; rw [h3, h4]; rfl
theorem Zig {H : Heap} {b : Nat} {v : Value} {T : TypeId} (h : H b = some (.cells ⟨[v]⟩ T (0, 0))) : H.cell ⟨b, 0, none⟩ = some v := by simp [Heap.cell, h]
theorem Zckz {H : Heap} (a n : Nat) (ha : a < 4294967296) (hn : n <= 32) : FnW Tryz.prog Zjs ⟨[.int .u32 (a : Int), .int .i64 (n : Int)]⟩ H fun v H' => v = .int .u32 ((a - a % Zgq n : Nat) : Int) ∧ Keep Nil H H' := by
  refine Zcss a n ?_; unfold Zbdz; have e1 : IntKind.wrap .i64 (32 - (n : Int)) = ((32 - n : Nat) : Int) := by rw [Zj (by omega) (by omega)]; omega
  rw [e1]; refine ⟨by omega, fun H2 hs => ⟨?_, Zkr (Keep.refl _ _) hs⟩⟩
  have hp : 2 ^ (32 - n) <= 2 ^ 32 := Nat.pow_le_pow_right (by decide) (by omega)
  have h0 : 0 < 2 ^ (32 - n) := Nat.two_pow_pos _; have e32 : (2 : Nat) ^ 32 = 4294967296 := rfl; have e2 : (min ((32 - n : Nat) : Int).toNat (IntKind.bits .u64)) = 32 - n := by rw [Int.toNat_natCast]; have : IntKind.bits .u64 = 64 := rfl; rw [this]; omega
  have e3 : (1 * (2 ^ (32 - n)) : Int) = ((2 ^ (32 - n) : Nat) : Int) := by rw [Int.one_mul]; norm_cast
  rw [e2, e3, Zyf _ (by omega), show (((2 ^ (32 - n) : Nat) : Int) - 1) = ((2 ^ (32 - n) - 1 : Nat) : Int) by omega, Zyf _ (by omega), wu32 (by omega), Zblc a ha _ (by omega)]
  rfl
theorem Zcuh {H : Heap} (n : Nat) (hn : n <= 300) : FnW Tryz.prog Zis ⟨[.int .i64 (n : Int)]⟩ H fun v H' => v = .int .i64 (oct8 n : Nat) ∧ Keep Nil H H' := by
  refine Zcuk n ⟨by decide, fun H2 hs => ⟨?_, Zkr (Keep.refl _ _) hs⟩⟩
  rw [Zj (n := (n : Int) + 8) (by omega) (by omega), Zj (n := (n : Int) + 8 - 1) (by omega) (by omega), Int.tdiv_eq_ediv_of_nonneg (by omega), Zj (by omega) (by omega)]
  unfold oct8; congr 1; omega
structure QI {l : Nat} (Hs : Heap) (Z : Nat -> Prop) (b1 : Nat) (C : Cons Tryz.prog l Zhq.ps Hs [b1]) (rest : List PfB) (s : List UInt8) (v : Value) (H : Heap) (Z' W' : Nat -> Prop) : Prop where
  J : C.J Z' W' rest H
  bx : ∃ T, H b1 = some (.cells ⟨[v]⟩ T (0, 0))
  cs : Zb Z Hs (.lst [.int .u8]) s v
  z : ∀ b, Z b -> Z' b ∧ H b = Hs b
  w1 : ¬ W' b1
  z1 : ¬ Z' b1
theorem QI.quiet {l : Nat} {Hs : Heap} {Z : Nat -> Prop} {b1 : Nat} {C : Cons Tryz.prog l Zhq.ps Hs [b1]} {rest : List PfB} {s : List UInt8} {v : Value} {H H' : Heap} {Z' W' : Nat -> Prop} (q : QI Hs Z b1 C rest s v H Z' W') (hz0 : ∀ b, Z b -> Hs b ≠ none) (k : Keep Nil H H') : QI Hs Z b1 C rest s v H' Z' W' := by obtain ⟨T, hb⟩ := q.bx; exact ⟨C.stJ q.J (fun b hb _ => k.same b (fun h => h) hb) k.live, ⟨T, (k.same b1 (fun h => h) (by rw [hb]; simp)).trans hb⟩, q.cs, fun b hb => ⟨(q.z b hb).1, (k.same b (fun h => h) (by rw [(q.z b hb).2]; exact hz0 b hb)).trans (q.z b hb).2⟩, q.w1, q.z1⟩
theorem QI.round {l : Nat} {Hs : Heap} {Z : Nat -> Prop} {b1 : Nat} {C : Cons Tryz.prog l Zhq.ps Hs [b1]} {rest : List PfB} {s : List UInt8} {v : Value} {H : Heap} {Z' W' : Nat -> Prop} {a n : Nat} {ok : Bool}
    (q : QI Hs Z b1 C (((UInt32.ofNat a, (n : Int)), ok, ()) :: rest) s v H Z' W') (ha : a < 4294967296) (hn : n <= 32) :
    Zfa Tryz.prog l [.agg ⟨[.int .u32 (a : Int), .int .i64 (n : Int)]⟩, .bool ok] H fun w H' => (w = .bool true ∧ ∃ Z'' W'', QI Hs Z b1 C rest s v H' Z'' W'') ∨ (w = .bool false ∧ ∃ Z'' W'', C.X Z'' W'' H') := by
  obtain ⟨T, hb⟩ := q.bx; have l1 : H b1 ≠ none := by rw [hb]; simp
  refine Zfa.mono (fun w H' hv => ?_) (C.round (Zx := fun _ => False) (x := ((UInt32.ofNat a, (n : Int)), ok, ())) q.J ?_ (fun b hb => hb.elim)); obtain ⟨k1, k2, Z'', W'', k3, k4, k5, k6, k7, hk⟩ := hv; rcases hk with ⟨rfl, hk⟩ | ⟨rfl, hk⟩; refine .inl ⟨rfl, Z'', W'', hk, ⟨T, (k1 b1 l1 q.w1).trans hb⟩, q.cs, fun b hb => ?_, fun h => ?_, fun h => ?_⟩; obtain ⟨q1, q2⟩ := k3 b (.inl (q.z b hb).1); exact ⟨q1, q2.trans (q.z b hb).2⟩; rcases k4 b1 h with h | h; exact q.w1 h; exact l1 h; rcases k5 b1 h with h | h | h | h; exact q.z1 h; exact h; exact q.w1 h; exact l1 h; exact .inr ⟨rfl, Z'', W'', hk⟩
  . show Zjy _ H [.agg [.int .u32, .int .i64], .bool] ((UInt32.ofNat a, (n : Int)), ok, ()) _; simp only [Zjy, pksA, pkA, SimL, SimV, and_true]; refine ⟨_, rfl, ?_⟩; have e : (UInt32.ofNat a).toNat = a := by rw [UInt32.toNat_ofNat', Nat.mod_eq_of_lt (by omega)]
    simp only [lvT, lvE, SimL, SimV, and_true, hdT, tlT, toI, e, true_and]; exact ⟨⟨by simp [loI], by simp only [hiI]; omega⟩, ⟨by simp only [loI]; omega, by simp only [hiI]; omega⟩⟩
section
variable {l : Nat} {Hs : Heap} {Z : Nat -> Prop} {b1 : Nat} {C : Cons Tryz.prog l Zhq.ps Hs [b1]}
theorem Zbvt {x13 x16 : Int} {next0 : Unit -> Heap -> Prop} {s : List UInt8} {v : Value} {H : Heap} {Z' W' : Nat -> Prop} (q : QI Hs Z b1 C [((0, 0), false, ())] s v H Z' W') :
    Zmp l b1 x13 x16 next0 true H fun _ H1 => ∀ H2, Shut Hs H1 H2 -> ∃ Z' W', C.J Z' W' [] H2 ∨ C.X Z' W' H2 := by
  unfold Zmp; refine ifT rfl (Zfa.mono (fun w H' hv => ?_) (QI.round (a := 0) (n := 0) (ok := false) (rest := []) q (by decide) (by decide)))
  rcases hv with ⟨rfl, Z'', W'', hq⟩ | ⟨rfl, Z'', W'', hx⟩; exact ⟨true, rfl, fun H2 hs => C.shut hs ⟨Z'', W'', .inl hq.J⟩⟩; exact ⟨false, rfl, fun H2 hs => C.shut hs ⟨Z'', W'', .inr hx⟩⟩
theorem Zceh {next0 : Unit -> Heap -> Prop} {x : UInt8} {r : List UInt8} {v : Value} {H : Heap} {Z' W' : Nat -> Prop} (hz0 : ∀ b, Z b -> Hs b ≠ none) (hok : x.toNat <= 32 ∧ oct8 x.toNat <= r.length) (hl : (x :: r).length <= 4611686018427387904)
    (q : QI Hs Z b1 C (Zbi (x :: r)) (x :: r) v H Z' W') (hn : ∀ v' H' Z'' W'', QI Hs Z b1 C (Zbi (r.drop (oct8 x.toNat))) (r.drop (oct8 x.toNat)) v' H' Z'' W'' -> next0 () H') :
    Zmp l b1 (x.toNat : Int) (oct8 x.toNat : Nat) next0 false H fun _ H1 => ∀ H2, Shut Hs H1 H2 -> ∃ Z' W', C.J Z' W' [] H2 ∨ C.X Z' W' H2 := by
  have hv := q.cs; simp only [Zb] at hv; obtain ⟨a, n, c, rfl, hln, hnc, hcm, -⟩ := hv; have hln : (x :: r).length = n := hln; simp only [List.length_cons] at hln hl; unfold Zp at hcm; have ho : oct8 x.toNat <= 4 := by unfold oct8; omega
  obtain ⟨T, hbx⟩ := q.bx; unfold Zmp; have w1 : IntKind.wrap .i64 (1 + ((oct8 x.toNat : Nat) : Int)) = ((1 + oct8 x.toNat : Nat) : Int) := by rw [Zj (by omega) (by omega)]; omega
  rw [w1]; refine ifF rfl ⟨a, n, c, Zig hbx, by omega, by omega, by omega, by omega, ?_⟩
  rw [Int.toNat_natCast]; refine ⟨fun k y H' => ∃ j : Nat, j <= oct8 x.toNat ∧ k = oct8 x.toNat - j ∧ y = (pxF 0 0 (r.take j), (j : Int), ()) ∧ QI Hs Z b1 C (Zbi (x :: r)) (x :: r) (.slice a n c) H' Z' W', oct8 x.toNat, ⟨0, Nat.zero_le _, by omega, rfl, q⟩, ?_⟩
  rintro k y H5 ⟨j, hj, rfl, rfl, q5⟩ g; simp only; unfold Zbkp; refine IfB.intro (fun h1 => ?_) (fun h1 => ?_)
  . have h1 : j < oct8 x.toNat := by have := of_decide_eq_true h1; omega
    obtain ⟨y, hy⟩ : ∃ y, r[j]? = some y := ⟨_, List.getElem?_eq_getElem (by omega)⟩
    obtain ⟨b, o, rfl, hzb, hcell⟩ := Zbtb (i := 1 + j) (x := y) q.cs (by rw [Nat.add_comm]; simpa using hy)
    have hc1 : c ≠ (1 : Int).toNat := by show c ≠ 1; omega
    rw [if_neg hc1]; refine NilP.intro _ rfl ⟨by omega, by omega, ?_⟩
    show ∃ x38 : Int, H5.cell ⟨b, o + (1 : Int).toNat * 1 + (j : Int).toNat * 1, none⟩ = some (.int .u8 x38) ∧ _; have e1 : o + (1 : Int).toNat * 1 + (j : Int).toNat * 1 = o + (1 + j) := by rw [Int.toNat_natCast]; show o + 1 * 1 + j * 1 = _; omega
    rw [e1]; have w2 : IntKind.wrap .i64 (24 - IntKind.wrap .i64 (8 * (j : Int))) = ((24 - 8 * j : Nat) : Int) := by
      rw [Zj (n := 8 * (j : Int)) (by omega) (by omega), Zj (by omega) (by omega)]; omega
    refine ⟨(y.toNat : Int), hcell H5 (q5.z b hzb).2, by rw [w2]; omega, oct8 x.toNat - (j + 1), by omega, j + 1, by omega, rfl, ?_, q5⟩
    rw [w2, Int.toNat_natCast, Zj (n := (j : Int) + 1) (by omega) (by omega), List.take_add_one, hy]
    simp only [Option.toList_some]; rw [Zbwk]; have e3 : (r.take j).length = j := by rw [List.length_take]; omega
    rw [e3, Nat.zero_add]; rfl
  . have h1 : j = oct8 x.toNat := by have := of_decide_eq_false h1; omega
    subst h1; have w3 : IntKind.wrap .i64 (x.toNat : Int) = (x.toNat : Int) := Zj (by omega) (by omega)
    obtain ⟨e1, e2⟩ := Zcqt (r.take (oct8 x.toNat)); rw [w3, e1]; refine (Zckz _ _ e2 hok.1).mono ?_; rintro w H6 ⟨rfl, k6⟩; refine ⟨_, rfl, ?_⟩; have q6 := q5.quiet hz0 k6; rw [Zbqn hok] at q6; refine Zfa.mono (fun w H7 hv => ?_) (QI.round (a := pxN (r.take (oct8 x.toNat)) - pxN (r.take (oct8 x.toNat)) % Zgq x.toNat) (n := x.toNat) (ok := true) q6 (by omega) hok.1)
    rcases hv with ⟨rfl, Z'', W'', q7⟩ | ⟨rfl, Z'', W'', hx⟩
    . refine ⟨true, rfl, ifF rfl ?_⟩; obtain ⟨T7, hb7⟩ := q7.bx; refine ⟨a, n, c, Zig hb7, by omega, by omega, Zi.blk (T := T7) hb7 (by simp) rfl ?_⟩
      rw [w1, Int.toNat_natCast]; have hd := Zcul (k := 1 + oct8 x.toNat) q7.cs (by omega)
      have e4 : (x :: r).drop (1 + oct8 x.toNat) = r.drop (oct8 x.toNat) := by rw [Nat.add_comm]; rfl
      have hd := (congrArg (fun z : List UInt8 => Zb Z Hs (.lst [.int .u8]) z (.slice (if c = 1 + oct8 x.toNat then a else Option.map (fun a => Addr.add a ((1 + oct8 x.toNat) * 1)) a) (n - (1 + oct8 x.toNat)) (c - (1 + oct8 x.toNat)))) e4).mp hd
      refine hn _ _ Z'' W'' ⟨C.stJ q7.J (fun b hb hw => ?_) (fun b hb => ?_), ⟨T7, ?_⟩, hd, fun b hb => ⟨(q7.z b hb).1, ?_⟩, q7.w1, q7.z1⟩; refine Sh.upd_ne fun e => ?_; subst e; rcases hw with h | h | h; exact q7.z1 h; exact q7.w1 h; exact h.2 (by simp)
      by_cases e : b = b1; subst e; rw [Sh.upd_eq]; simp; rw [Sh.upd_ne e]; exact hb; rw [Sh.upd_eq]; rfl
      . have hne : b ≠ b1 := fun e => by subst e; exact q7.z1 (q7.z b hb).1
        rw [Sh.upd_ne hne]; exact (q7.z b hb).2
    exact ⟨false, rfl, ifT rfl fun H2 hs => C.shut hs ⟨Z'', W'', .inr hx⟩⟩
theorem Zbyx {T1 : TypeId} {W : Nat -> Prop} {s : List UInt8} {v1 : Value} (hz0 : ∀ b, Z b -> Hs b ≠ none) (hl : s.length <= 4611686018427387904) (hs : Zb Z Hs (.lst [.int .u8]) s v1)
    (hb1 : Hs b1 = some (.cells ⟨[v1]⟩ T1 (0, 0))) (hz1 : ¬ Z b1) (hw1 : ¬ W b1) (hJ : C.J Z W (Zbi s) Hs) :
    FnW Tryz.prog Zqg ⟨[.func (.yield l) #[] #[], Zdd b1]⟩ Hs fun _ H' => ∃ Z' W', C.J Z' W' [] H' ∨ C.X Z' W' H' := by
  refine Zchr l b1 ?_; unfold Zbcm; refine ⟨fun k _ H => ∃ s v Z' W', k = s.length ∧ s.length <= 4611686018427387904 ∧ QI Hs Z b1 C (Zbi s) s v H Z' W', s.length, ⟨s, v1, Z, W, rfl, hl, hJ, ⟨T1, hb1⟩, hs, fun b hb => ⟨hb, rfl⟩, hw1, hz1⟩, ?_⟩; rintro k u H ⟨s, v, Z', W', rfl, hl, q⟩ g; have hv := q.cs; simp only [Zb] at hv; obtain ⟨a, n, c, rfl, hln, hnc, hcm, -⟩ := hv; have hln : s.length = n := hln; obtain ⟨T, hbx⟩ := q.bx; unfold Zbjj; refine ⟨a, n, c, Zig hbx, IfB.intro (fun h1 => ?_) (fun h1 => ?_)⟩
  . have h1 : 0 < n := by have := of_decide_eq_true h1; omega
    cases s with
    | nil => simp at hln; omega
    | cons x r =>
    obtain ⟨b, o, rfl, hzb, hcell⟩ := Zbtb (i := 0) (x := x) q.cs rfl; refine ⟨_, n, c, Zig hbx, NilP.intro _ rfl ⟨by omega, by omega, ?_⟩⟩
    have hx := UInt8.toNat_lt x; have w3 : IntKind.wrap .i64 (x.toNat : Int) = (x.toNat : Int) := Zj (by omega) (by omega)
    refine ⟨(x.toNat : Int), hcell H (q.z b hzb).2, ?_⟩; rw [w3]; refine (Zcuh x.toNat (by omega)).mono ?_
    rintro w H2 ⟨rfl, k2⟩; have q2 := q.quiet hz0 k2; obtain ⟨T2, hbx2⟩ := q2.bx; refine ⟨_, rfl, IfB.intro (fun h2 => ?_) (fun h2 => ?_)⟩
    . have h2 : ¬ (x.toNat <= 32 ∧ oct8 x.toNat <= r.length) := fun h => by have := of_decide_eq_true h2; omega
      rw [Zbjz h2] at q2; exact Zbvt q2
    . have h2 : x.toNat <= 32 := by have := of_decide_eq_false h2; omega
      refine ⟨_, n, c, Zig hbx2, ?_⟩; simp only [List.length_cons] at hln hl; rw [Zj (n := (n : Int) - 1) (by omega) (by omega)]
      by_cases h3 : oct8 x.toNat <= r.length
      . rw [decide_eq_false (by omega)]
        refine Zceh hz0 ⟨h2, h3⟩ (by simp only [List.length_cons]; omega) q2 fun v' H' Z'' W'' q' => ⟨_, ?_, _, v', Z'', W'', rfl, ?_, q'⟩
        simp only [List.length_drop, List.length_cons]; omega; simp only [List.length_drop]; omega
      . rw [decide_eq_true (by omega)]
        have h4 : ¬ (x.toNat <= 32 ∧ oct8 x.toNat <= r.length) := fun h => h3 h.2; rw [Zbjz h4] at q2; exact Zbvt q2
  . have h1 : n = 0 := by have := of_decide_eq_false h1; omega
    have : s = [] := List.eq_nil_of_length_eq_zero (by omega)
    subst this; exact fun H2 hs2 => C.shut hs2 ⟨Z', W', .inl q.J⟩
end
theorem Zcdy : ItOk Tryz.prog Zqg Zhq := by
  intro Hs Z W bs us c l C hpre hnd hlen hval hus hwf hzl hbz hwl hlay hlo hJ; obtain ⟨s, cu⟩ := c; have hus' : SimL ⟨Z, fun _ => 0, fun _ => .nilFunc⟩ Hs 0 [AV.lst [.int .u8] s] us := hus
  match us, hus' with
  | [v1], hus' =>
  match bs, hlen with
  | [b1], _ =>
  simp only [SimL, SimV] at hus'; obtain ⟨T1, hb1⟩ := hval 0 b1 v1 rfl rfl; exact Zbyx hzl hpre hus'.1 hb1 (hbz b1 (by simp)).1 (hbz b1 (by simp)).2 hJ
end Go.Proofs.YtboagabgpcghcaaGreatDoor
set_option maxHeartbeats 1000000
namespace Go.Proofs.YtboagabgpcghcaaGreatDoor
open Go.Sh
def chunks (n : Nat) : Nat -> List UInt8 -> List (List UInt8)
  | 0, _ => []
  | _ + 1, [] => []
  | k + 1, x :: r => (x :: r).take n :: chunks n k ((x :: r).drop n)
theorem Zbms {n : Nat} (hn : 0 < n) : ∀ (k k' : Nat) (s : List UInt8), s.length <= k -> s.length <= k' -> chunks n k s = chunks n k' s
  | 0, 0, s, _, _ => rfl
  | 0, k' + 1, [], _, _ => rfl
  | 0, _ + 1, _ :: _, h, _ => by simp at h
  | k + 1, 0, [], _, _ => rfl
  | _ + 1, 0, _ :: _, _, h => by simp at h
  | k + 1, k' + 1, [], _, _ => rfl
  | k + 1, k' + 1, x :: r, h, h' => by
    simp only [chunks]; have e : ((x :: r).drop n).length <= r.length := by simp only [List.length_drop, List.length_cons]; omega
    simp only [List.length_cons] at h h'; rw [Zbms hn k k' _ (by omega) (by omega)]
def Zgd (s : List UInt8) (n : Int) : List (List UInt8 × Unit) := (chunks n.toNat s.length s).map fun x => (x, ())
theorem Zclk (n : Int) : Zgd [] n = [] := rfl
theorem Zbsn {s : List UInt8} {n : Int} (hn : 1 <= n) (hs : s ≠ []) : Zgd s n = (s.take n.toNat, ()) :: Zgd (s.drop n.toNat) n := by
  cases s with
  | nil => exact absurd rfl hs
  | cons x r =>
    unfold Zgd; have e : ((x :: r).drop n.toNat).length <= r.length := by simp only [List.length_drop, List.length_cons]; omega
    simp only [List.length_cons, chunks, List.map_cons]; rw [Zbms (by omega) r.length _ _ e (Nat.le_refl _)]
def Zbcq (s : List UInt8) (n : Int) : Prop := 1 <= n ∧ n <= 4611686018427387904 ∧ s.length <= 4611686018427387904
def Zjx : It := ⟨[.lst [.int .u8]], [.lst [.int .u8], .int .i64], fun c => Zgd c.1 c.2.1, fun c => Zbcq c.1 c.2.1⟩
theorem Zbuk {A : Type} {l : List A} (h : l.length = 2) : ∃ a b, l = [a, b] := by
  match l, h with
  | [a, b], _ => exact ⟨a, b, rfl⟩
theorem Zcpo {Hs : Heap} {Z W : Nat -> Prop} {b1 b2 : Nat} {T1 T2 : TypeId} {s : List UInt8} {n : Int} {v1 : Value} {l : Nat} {C : Cons Tryz.prog l Zjx.ps Hs [b1, b2]} (hpre : Zbcq s n) (hs : Zb Z Hs (.lst [.int .u8]) s v1)
    (hb1 : Hs b1 = some (.cells ⟨[v1]⟩ T1 (0, 0))) (hb2 : Hs b2 = some (.cells ⟨[.int .i64 n]⟩ T2 (0, 0))) (hw1 : ¬ W b1) (hw2 : ¬ W b2) (hJ : C.J Z W (Zgd s n) Hs) :
    FnW Tryz.prog Zhf ⟨[.func (.yield l) #[] #[], Zdd b1, Zdd b2]⟩ Hs fun _ H' => ∃ Z' W', C.J Z' W' [] H' ∨ C.X Z' W' H' := by
  obtain ⟨hn1, hn2, hsl⟩ := hpre; simp only [Zb] at hs; obtain ⟨a, m, cp, rfl, hsm, hmc, hcm, hat⟩ := hs; have hsm' : s.length = m := hsm; unfold Zp at hcm; refine Zbyp l b1 b2 ?_; unfold Zbcn; refine ⟨fun k x H => ∃ (i : Nat) (Z' W' : Nat -> Prop), x.1 = (i : Int) ∧ k = s.length - i ∧ C.J Z' W' (Zgd (s.drop i) n) H ∧ H b1 = Hs b1 ∧ H b2 = Hs b2 ∧ (∀ b, Z b -> Z' b ∧ H b = Hs b) ∧ ¬ W' b1 ∧ ¬ W' b2,
    s.length, ⟨0, Z, W, rfl, rfl, hJ, rfl, rfl, fun b hb => ⟨hb, rfl⟩, hw1, hw2⟩, ?_⟩
  rintro k x H ⟨i, Z', W', hx, rfl, hJi, h1, h2, hZ, hw1, hw2⟩ gE; have c1 := Zig (h1.trans hb1); have c2 := Zig (h2.trans hb2); obtain ⟨xi, xu⟩ := x; simp only at hx; subst hx; simp only; unfold Zbur; refine ⟨a, m, cp, c1, ?_⟩; refine IfB.intro (fun hlt => ?_) (fun hge => ?_)
  . have him : i < m := by have := of_decide_eq_true hlt; omega
    refine ⟨n, c2, a, m, cp, c1, by omega, by omega, a, m, cp, c1, ?_⟩
    have he : ∃ e : Nat, e = min n.toNat (m - i) := ⟨_, rfl⟩; obtain ⟨e, he⟩ := he; have hw : IntKind.wrap .i64 ((i : Int) + (min n ((m - (i : Int).toNat : Nat) : Int))) = ((i + e : Nat) : Int) := by rw [Zj] <;> simp only [Int.toNat_natCast] <;> omega
    rw [hw]; refine ⟨by omega, by omega, ?_⟩
    simp only [Int.toNat_natCast]; refine ⟨by omega, by omega, ?_⟩
    simp only [Int.toNat_natCast]; refine ⟨by omega, by omega, ?_⟩
    simp only [Int.toNat_natCast]; rw [if_neg (by omega)]
    obtain ⟨b, o, rfl, hzb, cs, T, fr, hcb, hcc⟩ := hat (by omega)
    have hne : s.drop i ≠ [] := fun h0 => by have := congrArg List.length h0; simp only [List.length_drop, List.length_nil] at this; omega
    rw [Zbsn hn1 hne] at hJi; refine Zfa.mono (fun v H' hv => ?_) (C.round (Zx := Z) hJi ?_ (fun b hb => .inl (hZ b hb).1))
    . obtain ⟨k1, k2, Z'', W'', k3, k4, k5, k6, k7, hk⟩ := hv; have hl1 : H b1 ≠ none := by rw [h1, hb1]; simp
      have hl2 : H b2 ≠ none := by rw [h2, hb2]; simp
      rcases hk with ⟨rfl, hk⟩ | ⟨rfl, hk⟩
      . refine ⟨true, rfl, ifF rfl ⟨n, Zig (((k1 b2 hl2 hw2).trans h2).trans hb2), s.length - (i + n.toNat), by omega, i + n.toNat, Z'', W'', ?_, rfl, ?_, (k1 b1 hl1 hw1).trans h1, (k1 b2 hl2 hw2).trans h2, fun b hb => ?_, fun h => ?_, fun h => ?_⟩⟩
        show IntKind.wrap .i64 ((i : Int) + n) = _; rw [Zj] <;> omega; rw [← List.drop_drop]; exact hk; obtain ⟨q1, q2⟩ := k3 b (.inl (hZ b hb).1); exact ⟨q1, q2.trans (hZ b hb).2⟩; rcases k4 b1 h with h | h; exact hw1 h; exact hl1 h; rcases k4 b2 h with h | h; exact hw2 h; exact hl2 h
      exact ⟨false, rfl, ifT rfl fun H2 hs2 => C.shut hs2 ⟨Z'', W'', .inr hk⟩⟩
    . show Zjy Z H [.lst [.int .u8]] ((s.drop i).take n.toNat, ()) _; simp only [Zjy, pksA, pkA, SimL, SimV, and_true]; simp only [Zb]; refine ⟨_, _, _, rfl, ?_, Nat.le_refl _, by unfold Zp; omega, fun _ => ⟨b, o + i, by simp [Addr.add], hzb, cs, T, fr, by rw [(hZ b hzb).2]; exact hcb, fun j x hj => ?_⟩⟩
      show ((s.drop i).take n.toNat).length = _; simp only [List.length_take, List.length_drop]; omega; have hj' : ((s.drop i).take n.toNat)[j]? = some x := hj; rw [List.getElem?_take] at hj'; split at hj'; rw [List.getElem?_drop] at hj'; refine Zd.congr (fun jj _ => ?_) (Zd.ext (fun b hb => ⟨hb, (hZ b hb).2⟩) _ _ _ (hcc (i + j) x hj')); congr 1; simp only [List.length_cons, List.length_nil]; omega; cases hj'
  . have hge' : m <= i := by have := of_decide_eq_false hge; omega
    intro H2 hs2; refine C.shut hs2 ⟨Z', W', .inl ?_⟩; have : s.drop i = [] := List.drop_eq_nil_of_le (by omega)
    rw [this] at hJi; exact hJi
theorem Zbmn : ItOk Tryz.prog Zhf Zjx := by
  intro Hs Z W bs us c l C hpre hnd hlen hval hus hwf hzl hbz hwl hlay hlo hJ; obtain ⟨s, n, cu⟩ := c; have hus' : SimL ⟨Z, fun _ => 0, fun _ => .nilFunc⟩ Hs 0 [AV.lst [.int .u8] s, .int .i64 n] us := hus; obtain ⟨v1, v2, rfl⟩ := Zbuk (hus'.len).symm; obtain ⟨b1, b2, rfl⟩ := Zbuk (l := bs) (by rw [hlen]; rfl)
  simp only [SimL, SimV] at hus'; obtain ⟨hs, ⟨rfl, hnr⟩, _⟩ := hus'; obtain ⟨T1, hb1⟩ := hval 0 b1 v1 rfl rfl; obtain ⟨T2, hb2⟩ := hval 1 b2 _ rfl rfl; exact Zcpo hpre hs hb1 hb2 (hbz b1 (by simp)).2 (hbz b2 (by simp)).2 hJ
end Go.Proofs.YtboagabgpcghcaaGreatDoor
end
end
