/-
  NUMBERS BY NAME: printed by a program of ours over this translation.
-/
import Derived.Test.YtflfamhboalgiaaDoorED
import Derived.Test.YtflfamhboalgiaaDoorRows
import Derived.Shelf.Strings.Builder1
import Derived.Shelf.Strings.Builder2
import Derived.Shelf.Strings.OnBuilder
import Derived.Shelf.Strings.BuilderF
import Derived.Shelf.Strings.BuilderK
import Derived.Shelf.Strconv.Itoa0
import Derived.Shelf.Strconv.Itoa1
import Derived.Shelf.LaysM
import Derived.Shelf.Strconv.Itoa2
import Derived.Shelf.Strconv.Itoa3
import Derived.Shelf.Strconv.Clone
import Derived.Shelf.Strconv.SyntaxError
import Derived.Shelf.LaysC
import Derived.Shelf.Strconv.ToError
import Derived.Shelf.Strconv.Lower
import Derived.Shelf.Strconv.ParseUint10
import Derived.Shelf.Strconv.ParseUint10Empty
import Derived.Shelf.Strconv.ParseUint10Any
import Derived.Shelf.Strconv.RangeError
import Derived.Shelf.Strconv.ToErrorRange
import Derived.Ground.MpProg
import Derived.Shelf.Pu.ParseUintPublic10
import Derived.Shelf.Pu.ErrVarParseUint
import Derived.Shelf.Strings.Search1
import Derived.Shelf.Strings.Search2
import Derived.Shelf.Strings.Search3
import Derived.Shelf.Strings.Shaped
import Derived.Shelf.Bits.Mul64
import Derived.Shelf.Unicode.DecodeSlow
import Derived.Test.YtflfamhboalgiaaDoorProg
import Derived.Lib.IndexLaws
import Derived.Test.YtflfamhboalgiaaDoorEB
import Derived.Lib.ItoaMem
set_option linter.all false
section
set_option maxRecDepth 100000
set_option maxHeartbeats 4000000
namespace Go.Proofs.YtflfamhboalgiaaDoor
open Go.Sh
def Zd (fn : Func) : Code := match fn.body with | some c => c | none => .skip
abbrev Zgu : TypeId := 3
abbrev Zeu : TypeId := 4
abbrev Zja : TypeId := 5
abbrev Zjq : TypeId := 9
abbrev Zq : TypeId := 22
abbrev Zl : TypeId := 32
abbrev Zcqe : TypeId := 36
abbrev Zbt : TypeId := 44
abbrev Zh : TypeId := 46
abbrev Zclr : TypeId := 54
abbrev Zbvm : TypeId := 84
abbrev Zln : TypeId := 99
abbrev Zctu : TypeId := 117
abbrev Zcno : TypeId := 143
abbrev Zbnw : TypeId := 145
abbrev Zbyk : FuncId := 3
abbrev Zbmz : FuncId := 4
abbrev Zbpg : FuncId := 5
abbrev Zbrs : FuncId := 6
abbrev Zbva : FuncId := 7
abbrev Zjo : FuncId := 8
abbrev Zlq : FuncId := 9
abbrev Zvl : FuncId := 10
abbrev Zke : FuncId := 11
abbrev Zmd : FuncId := 12
abbrev Zkn : FuncId := 13
abbrev Zit : FuncId := 14
abbrev Zjw : FuncId := 15
abbrev Zyd : FuncId := 16
abbrev Zrk : FuncId := 17
abbrev Znx : FuncId := 18
abbrev Zth : FuncId := 19
abbrev Zvh : FuncId := 20
abbrev Zrf : FuncId := 21
abbrev Zwg : FuncId := 22
abbrev Zww : FuncId := 23
abbrev Zgv : FuncId := 24
abbrev Zht : FuncId := 25
abbrev Zsq : FuncId := 26
abbrev Zye : FuncId := 27
abbrev Zyi : FuncId := 28
abbrev Zwa : FuncId := 29
abbrev Zml : FuncId := 30
abbrev Znv : FuncId := 31
abbrev Zkc : FuncId := 32
abbrev Zwk : FuncId := 33
abbrev Ztu : FuncId := 34
abbrev Zxh : FuncId := 35
abbrev Zyy : FuncId := 36
abbrev Ztq : FuncId := 37
abbrev Zuv : FuncId := 38
abbrev Zwc : FuncId := 39
abbrev Zuw : FuncId := 40
abbrev Zna : FuncId := 41
abbrev Zhw : FuncId := 42
abbrev Zvv : FuncId := 43
abbrev Ztx : FuncId := 44
abbrev Zhe : FuncId := 45
abbrev Zwu : FuncId := 46
abbrev Zxl : FuncId := 47
abbrev Zsd : FuncId := 48
abbrev Zwi : FuncId := 49
abbrev Zzn : FuncId := 50
abbrev Zyj : FuncId := 51
abbrev Zbef : FuncId := 52
abbrev Zkj : FuncId := 53
abbrev Zlz : FuncId := 54
abbrev Zbdz : FuncId := 55
abbrev Zbgo : FuncId := 59
abbrev Zxz : FuncId := 60
abbrev Zxr : FuncId := 61
abbrev Zbbn : FuncId := 62
abbrev Zjr : FuncId := 63
abbrev Zbpf : FuncId := 64
abbrev Zclz : FuncId := 65
abbrev Zcgw : FuncId := 66
abbrev Zvk : FuncId := 67
abbrev Zpj : FuncId := 68
abbrev Zbbv : FuncId := 69
abbrev Zuj : FuncId := 70
abbrev Zbyg : FuncId := 71
abbrev Zbsk : FuncId := 72
abbrev Zbnd : FuncId := 73
abbrev Zcrd : FuncId := 74
abbrev Zid : FuncId := 77
abbrev Zcoc : FuncId := 78
abbrev Zblz : FuncId := 79
abbrev Zwn : FuncId := 80
abbrev Zyw : FuncId := 81
abbrev Zix : Nat := 0
abbrev Zno : Nat := 1
abbrev Zod : Nat := 4
abbrev Zng : Nat := 5
end Go.Proofs.YtflfamhboalgiaaDoor
end
section
namespace Go.Proofs
open Go.Shelf
def Tryd.lays156_ren : Go.Shelf.Ren := ⟨fun | 156 => 33 | 165 => 56 | 166 => 57 | 169 => 58 | 240 => 75 | 241 => 76 | 276 => 92 | 277 => 93 | n => n, fun | 31 => 52 | 9 => 9 | 3 => 3 | 4 => 4 | 0 => 0 | 20 => 20 | 72 => 81 | 76 => 85 | 70 => 79 | 37 => 36 | 75 => 84 | 127 => 104 | 164 => 121 | 5 => 5 | 80 => 87 | n => n, fun | n => n⟩
theorem Tryd.lays156 : Go.Proofs.Lays.n156 Tryd.prog Tryd.lays156_ren := {
  mixed := by kernel_rfl
  f156 := Tryd.func33.trans (congrArg some (by kernel_rfl))
  f165 := Tryd.func56.trans (congrArg some (by kernel_rfl))
  f166 := Tryd.func57.trans (congrArg some (by kernel_rfl))
  f169 := Tryd.func58.trans (congrArg some (by kernel_rfl))
  f240 := Tryd.func75.trans (congrArg some (by kernel_rfl))
  f241 := Tryd.func76.trans (congrArg some (by kernel_rfl))
  f276 := Tryd.func92.trans (congrArg some (by kernel_rfl))
  f277 := Tryd.func93.trans (congrArg some (by kernel_rfl))
  t0 := Tryd.underlying0
  a0 := Tryd.isAgg0
  z0 := Tryd.sizeOf0
  v0 := Tryd.zeroValue0
  t3 := Tryd.underlying3
  a3 := Tryd.isAgg3
  z3 := Tryd.sizeOf3
  v3 := Tryd.zeroValue3
  t4 := Tryd.underlying4
  a4 := Tryd.isAgg4
  z4 := Tryd.sizeOf4
  v4 := Tryd.zeroValue4
  t9 := Tryd.underlying9
  a9 := Tryd.isAgg9
  z9 := Tryd.sizeOf9
  v9 := Tryd.zeroValue9
  t20 := Tryd.underlying20
  a20 := Tryd.isAgg20
  z20 := Tryd.sizeOf20
  v20 := Tryd.zeroValue20
  t31 := Tryd.underlying52
  a31 := Tryd.isAgg52
  z31 := Tryd.sizeOf52
  v31 := Tryd.zeroValue52
  t37 := Tryd.underlying36
  a37 := Tryd.isAgg36
  z37 := Tryd.sizeOf36
  v37 := Tryd.zeroValue36
  t70 := Tryd.underlying79
  a70 := Tryd.isAgg79
  z70 := Tryd.sizeOf79
  v70 := Tryd.zeroValue79
  t72 := Tryd.underlying81
  a72 := Tryd.isAgg81
  z72 := Tryd.sizeOf81
  v72 := Tryd.zeroValue81
  t75 := Tryd.underlying84
  a75 := Tryd.isAgg84
  z75 := Tryd.sizeOf84
  v75 := Tryd.zeroValue84
  t76 := Tryd.underlying85
  a76 := Tryd.isAgg85
  z76 := Tryd.sizeOf85
  v76 := Tryd.zeroValue85
  t127 := Tryd.underlying104
  a127 := Tryd.isAgg104
  z127 := Tryd.sizeOf104
  v127 := Tryd.zeroValue104
  t164 := Tryd.underlying121
  a164 := Tryd.isAgg121
  z164 := Tryd.sizeOf121
  v164 := Tryd.zeroValue121 }
theorem Tryd.Builder_Extra_156 : Builder.Extra Tryd.prog Tryd.lays156_ren := {
  sizeBuilder := by kernel_rfl
  liesBuilder := by kernel_rfl
  t5 := Tryd.underlying5
  a5 := Tryd.isAgg5
  z5 := Tryd.sizeOf5
  v5 := Tryd.zeroValue5
  infoByte := by kernel_rfl
  cellsByte := by kernel_rfl
  sizeByte := by kernel_rfl
  neB5 := by decide }
open Go.RowKit in
theorem Tryd.strings_Join_none (a : Option Addr) (c : Nat) (sep : ByteArray) (w : World) :
    Calls Tryd.prog 33 #[.slice a 0 c, .string sep] w fun e w' => e = .returned (.string ⟨#[]⟩) ∧ w' = w := Any.strings_Join_none Tryd.lays156 Tryd.Builder_Extra_156 a c sep w
open Go.RowKit in
theorem Tryd.strings_Join (bk o c : Nat) (xs : List ByteArray) (sep : ByteArray) (w : World) (hcells : ∀ (j : Nat) x, xs[j]? = some x -> w.cell? ⟨bk, o + j, none⟩ = some (.string x)) (hbk : bk < w.heap.size) (hN : xs.length <= 140737488355328) (hcap : xs.length <= c) (hlen : (Lib.join (xs.map (·.data.toList)) sep.data.toList).length <= 140737488355328) :
    Calls Tryd.prog 33 #[.slice (some ⟨bk, o, none⟩) xs.length c, .string sep] w fun e w' => e = .returned (.string ⟨(Lib.join (xs.map (·.data.toList)) sep.data.toList).toArray⟩) ∧ Below w.heap.size w w' := Any.strings_Join Tryd.lays156 Tryd.Builder_Extra_156 bk o c xs sep w hcells hbk hN hcap hlen
def Tryd.lays283_ren : Go.Shelf.Ren := ⟨fun | 283 => 71 | n => n, fun | 3 => 3 | 9 => 9 | 4 => 4 | n => n, fun | n => n⟩
theorem Tryd.lays283 : Go.Proofs.Lays.n283 Tryd.prog Tryd.lays283_ren := {
  mixed := by kernel_rfl
  f283 := Tryd.func71.trans (congrArg some (by kernel_rfl))
  t3 := Tryd.underlying3
  a3 := Tryd.isAgg3
  z3 := Tryd.sizeOf3
  v3 := Tryd.zeroValue3
  t4 := Tryd.underlying4
  a4 := Tryd.isAgg4
  z4 := Tryd.sizeOf4
  v4 := Tryd.zeroValue4
  t9 := Tryd.underlying9
  a9 := Tryd.isAgg9
  z9 := Tryd.sizeOf9
  v9 := Tryd.zeroValue9 }
open Go.Lib in
theorem Tryd.internal_strconv_small (i : Nat) (h : i < 100) (w : World) :
    Calls Tryd.prog 71 #[.int .i64 i] w fun e w' => e = .returned (.string ⟨(Lib.decDigits i).toArray⟩) ∧ w' = w := Any.internal_strconv_small Tryd.lays283 i h w
def Tryd.laysM284_ren : Go.Shelf.Ren := ⟨fun | 284 => 72 | 129 => 88 | 317 => 87 | 318 => 89 | n => n, fun | 53 => 54 | 3 => 3 | 212 => 117 | 0 => 0 | 4 => 4 | 46 => 72 | 5 => 5 | 9 => 9 | n => n, fun | 17 => 0 | n => n⟩
theorem Tryd.laysM284 : Go.Proofs.LaysM.n284 Tryd.prog Tryd.laysM284_ren := {
  mixed := by kernel_rfl
  f129 := Tryd.func88.trans (congrArg some (by kernel_rfl))
  f284 := Tryd.func72.trans (congrArg some (by kernel_rfl))
  f317 := Tryd.func87.trans (congrArg some (by kernel_rfl))
  f318 := Tryd.func89.trans (congrArg some (by kernel_rfl))
  t0 := Tryd.underlying0
  a0 := Tryd.isAgg0
  z0 := Tryd.sizeOf0
  v0 := Tryd.zeroValue0
  t3 := Tryd.underlying3
  a3 := Tryd.isAgg3
  z3 := Tryd.sizeOf3
  v3 := Tryd.zeroValue3
  t4 := Tryd.underlying4
  a4 := Tryd.isAgg4
  z4 := Tryd.sizeOf4
  v4 := Tryd.zeroValue4
  t5 := Tryd.underlying5
  a5 := Tryd.isAgg5
  z5 := Tryd.sizeOf5
  v5 := Tryd.zeroValue5
  t9 := Tryd.underlying9
  a9 := Tryd.isAgg9
  z9 := Tryd.sizeOf9
  v9 := Tryd.zeroValue9
  t46 := Tryd.underlying72
  a46 := Tryd.isAgg72
  z46 := Tryd.sizeOf72
  v46 := Tryd.zeroValue72
  t53 := Tryd.underlying54
  a53 := Tryd.isAgg54
  z53 := Tryd.sizeOf54
  v53 := Tryd.zeroValue54
  t212 := Tryd.underlying117
  a212 := Tryd.isAgg117
  z212 := Tryd.sizeOf117
  v212 := Tryd.zeroValue117
  g17 := by kernel_rfl
  i0 := by kernel_rfl
  i3 := by kernel_rfl
  i4 := by kernel_rfl
  i5 := by kernel_rfl
  i9 := by kernel_rfl
  i46 := by kernel_rfl
  i53 := by kernel_rfl
  i212 := by kernel_rfl
  m17 := by kernel_rfl }
open Go.Lib in
theorem Tryd.internal_strconv_numDigits (u : Nat) (h1 : 1 <= u) (h2 : u < 18446744073709551616) (w : World) (htab : Lib.TabIs Tryd.prog w "internal/strconv.uint64pow10" .u64 Lib.pow10Tab) :
    Calls Tryd.prog 72 #[.int .u64 u] w fun e w' => e = .returned (.int .i64 (Lib.nDigits u)) ∧ w' = w := Any.internal_strconv_numDigits Tryd.laysM284 u h1 h2 w htab
def Tryd.lays285_ren : Go.Shelf.Ren := ⟨fun | 285 => 73 | n => n, fun | 37 => 36 | 53 => 54 | 3 => 3 | 4 => 4 | 51 => 32 | 9 => 9 | 5 => 5 | 0 => 0 | n => n, fun | n => n⟩
theorem Tryd.lays285 : Go.Proofs.Lays.n285 Tryd.prog Tryd.lays285_ren := {
  mixed := by kernel_rfl
  f285 := Tryd.func73.trans (congrArg some (by kernel_rfl))
  t0 := Tryd.underlying0
  a0 := Tryd.isAgg0
  z0 := Tryd.sizeOf0
  v0 := Tryd.zeroValue0
  t3 := Tryd.underlying3
  a3 := Tryd.isAgg3
  z3 := Tryd.sizeOf3
  v3 := Tryd.zeroValue3
  t4 := Tryd.underlying4
  a4 := Tryd.isAgg4
  z4 := Tryd.sizeOf4
  v4 := Tryd.zeroValue4
  t5 := Tryd.underlying5
  a5 := Tryd.isAgg5
  z5 := Tryd.sizeOf5
  v5 := Tryd.zeroValue5
  t9 := Tryd.underlying9
  a9 := Tryd.isAgg9
  z9 := Tryd.sizeOf9
  v9 := Tryd.zeroValue9
  t37 := Tryd.underlying36
  a37 := Tryd.isAgg36
  z37 := Tryd.sizeOf36
  v37 := Tryd.zeroValue36
  t51 := Tryd.underlying32
  a51 := Tryd.isAgg32
  z51 := Tryd.sizeOf32
  v51 := Tryd.zeroValue32
  t53 := Tryd.underlying54
  a53 := Tryd.isAgg54
  z53 := Tryd.sizeOf54
  v53 := Tryd.zeroValue54 }
open Go.RowKit Go.Sort Go.Lib in
theorem Tryd.internal_strconv_formatBase10 (blk off cap : Nat) (u : Nat) (d : Array UInt8) (w : World) (hH : Holds (fun (b : UInt8) => Value.int .u8 (b.toNat : Int)) w blk off d) (hu : u < 10 ^ d.size) (hu64 : u < 18446744073709551616) (hsz : d.size < 4611686018427387904) :
    Calls Tryd.prog 73 #[.slice (some ⟨blk, off, none⟩) d.size cap, .int .u64 u] w fun e w' =>
      e = .returned (.tuple #[]) ∧ ∃ (n v' : Nat) (dk : Array UInt8), w' = (putRow (fun (b : UInt8) => Value.int .u8 (b.toNat : Int)) w blk off dk).drewN n ∧ FmtInv d.size u 0 v' dk := Any.internal_strconv_formatBase10 Tryd.lays285 blk off cap u d w hH hu hu64 hsz
def Tryd.laysPu14_ren : Go.Shelf.Ren := ⟨fun | 14 => 62 | 16 => 82 | 17 => 83 | 19 => 96 | 20 => 97 | 21 => 98 | 22 => 99 | 23 => 100 | 24 => 101 | 25 => 109 | 27 => 111 | 26 => 110 | 28 => 114 | 29 => 115 | 30 => 71 | 31 => 72 | 32 => 73 | 33 => 74 | 35 => 88 | 34 => 87 | 36 => 89 | 37 => 90 | 38 => 91 | 39 => 103 | 40 => 104 | n => n, fun | 9 => 9 | 3 => 3 | 22 => 54 | 24 => 84 | 25 => 89 | 4 => 4 | 34 => 124 | 5 => 5 | 36 => 72 | 37 => 36 | 0 => 0 | 39 => 126 | 21 => 21 | 44 => 138 | 47 => 104 | 50 => 145 | 48 => 143 | 2 => 2 | 52 => 99 | 55 => 102 | 59 => 117 | 60 => 32 | 20 => 20 | 61 => 118 | 65 => 140 | 66 => 141 | 67 => 87 | n => n, fun | 0 => 4 | 1 => 5 | 2 => 0 | 3 => 6 | 4 => 7 | n => n⟩
theorem Tryd.laysPu14 : Go.Proofs.LaysPu.n14 Tryd.prog Tryd.laysPu14_ren := {
  mixed := by kernel_rfl
  f14 := Tryd.func62.trans (congrArg some (by kernel_rfl))
  f16 := Tryd.func82.trans (congrArg some (by kernel_rfl))
  f17 := Tryd.func83.trans (congrArg some (by kernel_rfl))
  f19 := Tryd.func96.trans (congrArg some (by kernel_rfl))
  f20 := Tryd.func97.trans (congrArg some (by kernel_rfl))
  f21 := Tryd.func98.trans (congrArg some (by kernel_rfl))
  f22 := Tryd.func99.trans (congrArg some (by kernel_rfl))
  f23 := Tryd.func100.trans (congrArg some (by kernel_rfl))
  f24 := Tryd.func101.trans (congrArg some (by kernel_rfl))
  f25 := Tryd.func109.trans (congrArg some (by kernel_rfl))
  f26 := Tryd.func110.trans (congrArg some (by kernel_rfl))
  f27 := Tryd.func111.trans (congrArg some (by kernel_rfl))
  f28 := Tryd.func114.trans (congrArg some (by kernel_rfl))
  f29 := Tryd.func115.trans (congrArg some (by kernel_rfl))
  f30 := Tryd.func71.trans (congrArg some (by kernel_rfl))
  f31 := Tryd.func72.trans (congrArg some (by kernel_rfl))
  f32 := Tryd.func73.trans (congrArg some (by kernel_rfl))
  f33 := Tryd.func74.trans (congrArg some (by kernel_rfl))
  f34 := Tryd.func87.trans (congrArg some (by kernel_rfl))
  f35 := Tryd.func88.trans (congrArg some (by kernel_rfl))
  f36 := Tryd.func89.trans (congrArg some (by kernel_rfl))
  f37 := Tryd.func90.trans (congrArg some (by kernel_rfl))
  f38 := Tryd.func91.trans (congrArg some (by kernel_rfl))
  f39 := Tryd.func103.trans (congrArg some (by kernel_rfl))
  f40 := Tryd.func104.trans (congrArg some (by kernel_rfl))
  t0 := Tryd.underlying0
  a0 := Tryd.isAgg0
  z0 := Tryd.sizeOf0
  v0 := Tryd.zeroValue0
  i0 := by kernel_rfl
  t2 := Tryd.underlying2
  a2 := Tryd.isAgg2
  z2 := Tryd.sizeOf2
  v2 := Tryd.zeroValue2
  i2 := by kernel_rfl
  t3 := Tryd.underlying3
  a3 := Tryd.isAgg3
  z3 := Tryd.sizeOf3
  v3 := Tryd.zeroValue3
  i3 := by kernel_rfl
  t4 := Tryd.underlying4
  a4 := Tryd.isAgg4
  z4 := Tryd.sizeOf4
  v4 := Tryd.zeroValue4
  i4 := by kernel_rfl
  t5 := Tryd.underlying5
  a5 := Tryd.isAgg5
  z5 := Tryd.sizeOf5
  v5 := Tryd.zeroValue5
  i5 := by kernel_rfl
  t9 := Tryd.underlying9
  a9 := Tryd.isAgg9
  z9 := Tryd.sizeOf9
  v9 := Tryd.zeroValue9
  i9 := by kernel_rfl
  t20 := Tryd.underlying20
  a20 := Tryd.isAgg20
  z20 := Tryd.sizeOf20
  v20 := Tryd.zeroValue20
  i20 := by kernel_rfl
  t21 := Tryd.underlying21
  a21 := Tryd.isAgg21
  z21 := Tryd.sizeOf21
  v21 := Tryd.zeroValue21
  i21 := by kernel_rfl
  t22 := Tryd.underlying54
  a22 := Tryd.isAgg54
  z22 := Tryd.sizeOf54
  v22 := Tryd.zeroValue54
  i22 := by kernel_rfl
  t24 := Tryd.underlying84
  a24 := Tryd.isAgg84
  z24 := Tryd.sizeOf84
  v24 := Tryd.zeroValue84
  i24 := by kernel_rfl
  t25 := Tryd.underlying89
  a25 := Tryd.isAgg89
  z25 := Tryd.sizeOf89
  v25 := Tryd.zeroValue89
  i25 := by kernel_rfl
  t34 := Tryd.underlying124
  a34 := Tryd.isAgg124
  z34 := Tryd.sizeOf124
  v34 := Tryd.zeroValue124
  i34 := by kernel_rfl
  c34 := by kernel_rfl
  t36 := Tryd.underlying72
  a36 := Tryd.isAgg72
  z36 := Tryd.sizeOf72
  v36 := Tryd.zeroValue72
  i36 := by kernel_rfl
  t37 := Tryd.underlying36
  a37 := Tryd.isAgg36
  z37 := Tryd.sizeOf36
  v37 := Tryd.zeroValue36
  i37 := by kernel_rfl
  t39 := Tryd.underlying126
  a39 := Tryd.isAgg126
  z39 := Tryd.sizeOf126
  v39 := Tryd.zeroValue126
  i39 := by kernel_rfl
  t44 := Tryd.underlying138
  a44 := Tryd.isAgg138
  z44 := Tryd.sizeOf138
  v44 := Tryd.zeroValue138
  i44 := by kernel_rfl
  t47 := Tryd.underlying104
  a47 := Tryd.isAgg104
  z47 := Tryd.sizeOf104
  v47 := Tryd.zeroValue104
  i47 := by kernel_rfl
  t48 := Tryd.underlying143
  a48 := Tryd.isAgg143
  z48 := Tryd.sizeOf143
  v48 := Tryd.zeroValue143
  i48 := by kernel_rfl
  t50 := Tryd.underlying145
  a50 := Tryd.isAgg145
  z50 := Tryd.sizeOf145
  v50 := Tryd.zeroValue145
  i50 := by kernel_rfl
  t52 := Tryd.underlying99
  a52 := Tryd.isAgg99
  z52 := Tryd.sizeOf99
  v52 := Tryd.zeroValue99
  i52 := by kernel_rfl
  t55 := Tryd.underlying102
  a55 := Tryd.isAgg102
  z55 := Tryd.sizeOf102
  v55 := Tryd.zeroValue102
  i55 := by kernel_rfl
  t59 := Tryd.underlying117
  a59 := Tryd.isAgg117
  z59 := Tryd.sizeOf117
  v59 := Tryd.zeroValue117
  i59 := by kernel_rfl
  t60 := Tryd.underlying32
  a60 := Tryd.isAgg32
  z60 := Tryd.sizeOf32
  v60 := Tryd.zeroValue32
  i60 := by kernel_rfl
  t61 := Tryd.underlying118
  a61 := Tryd.isAgg118
  z61 := Tryd.sizeOf118
  t65 := Tryd.underlying140
  a65 := Tryd.isAgg140
  z65 := Tryd.sizeOf140
  v65 := Tryd.zeroValue140
  i65 := by kernel_rfl
  t66 := Tryd.underlying141
  a66 := Tryd.isAgg141
  z66 := Tryd.sizeOf141
  v66 := Tryd.zeroValue141
  i66 := by kernel_rfl
  t67 := Tryd.underlying87
  a67 := Tryd.isAgg87
  z67 := Tryd.sizeOf87
  v67 := Tryd.zeroValue87
  i67 := by kernel_rfl
  g0 := by kernel_rfl
  m0 := by kernel_rfl
  g1 := by kernel_rfl
  m1 := by kernel_rfl
  g2 := by kernel_rfl
  m2 := by kernel_rfl
  g3 := by kernel_rfl
  m3 := by kernel_rfl
  g4 := by kernel_rfl
  m4 := by kernel_rfl }
open Go.RowKit in
theorem Tryd.strconv_ParseUint_10_at64_ok (s : ByteArray) (hmax : s.size <= 9223372036854775806) (u : Nat) (h : Lib.parseUintB 64 s.data.toList = .ok u) (w : World) :
    Calls Tryd.prog 62 #[.string s, .int .i64 10, .int .i64 64] w fun e w' => e = .returned (.tuple #[.int .u64 u, .nilIface]) ∧ (w' = w ∨ w' = Lib.bytesWorld w 5 s) := Any.strconv_ParseUint_10_at64_ok Tryd.laysPu14 s hmax u h w
open Go.RowKit in
theorem Tryd.strconv_ParseUint_10_at64_syntax (s : ByteArray) (hlim : s.size <= 281474976710656) (h : Lib.parseUintB 64 s.data.toList = Lib.NumEnd.syntax) (ev : Value) (w : World) (hv : w.cell? ⟨4, 0, none⟩ = some ev) (hev : ev = .nilIface ∨ ∃ te pe, ev = .iface te pe) :
    Calls Tryd.prog 62 #[.string s, .int .i64 10, .int .i64 64] w fun e w' => ∃ N, e = .returned (.tuple #[.int .u64 0, .iface 126 (.pointer (some ⟨N, 0, none⟩))]) ∧ w.heap.size <= N ∧ w'.heap[N]? = some (.cells #[.string ⟨#[80, 97, 114, 115, 101, 85, 105, 110, 116]⟩, .string s, ev] 138 (0, 0)) ∧ Below w.heap.size w w' := Any.strconv_ParseUint_10_at64_syntax Tryd.laysPu14 s hlim h ev w hv hev
open Go.RowKit in
theorem Tryd.strconv_ParseUint_10_at64_range (s : ByteArray) (hlim : s.size <= 281474976710656) (h : Lib.parseUintB 64 s.data.toList = .range) (ev : Value) (w : World) (hv : w.cell? ⟨5, 0, none⟩ = some ev) (hev : ev = .nilIface ∨ ∃ te pe, ev = .iface te pe) :
    Calls Tryd.prog 62 #[.string s, .int .i64 10, .int .i64 64] w fun e w' => ∃ N, e = .returned (.tuple #[.int .u64 18446744073709551615, .iface 126 (.pointer (some ⟨N, 0, none⟩))]) ∧ w.heap.size <= N ∧ w'.heap[N]? = some (.cells #[.string ⟨#[80, 97, 114, 115, 101, 85, 105, 110, 116]⟩, .string s, ev] 138 (0, 0)) ∧ Below w.heap.size w w' := Any.strconv_ParseUint_10_at64_range Tryd.laysPu14 s hlim h ev w hv hev
def Tryd.lays143_ren : Go.Shelf.Ren := ⟨fun | 143 => 79 | 219 => 95 | 217 => 105 | 225 => 106 | 224 => 107 | 267 => 108 | 266 => 112 | 314 => 113 | n => n, fun | 9 => 9 | 3 => 3 | 4 => 4 | 5 => 5 | 46 => 72 | 146 => 111 | 51 => 32 | n => n, fun | 1 => 1 | n => n⟩
theorem Tryd.lays143 : Go.Proofs.Lays.n143 Tryd.prog Tryd.lays143_ren := {
  mixed := by kernel_rfl
  f143 := Tryd.func79.trans (congrArg some (by kernel_rfl))
  f217 := Tryd.func105.trans (congrArg some (by kernel_rfl))
  f219 := Tryd.func95.trans (congrArg some (by kernel_rfl))
  f224 := Tryd.func107.trans (congrArg some (by kernel_rfl))
  f225 := Tryd.func106.trans (congrArg some (by kernel_rfl))
  f266 := Tryd.func112.trans (congrArg some (by kernel_rfl))
  f267 := Tryd.func108.trans (congrArg some (by kernel_rfl))
  f314 := Tryd.func113.trans (congrArg some (by kernel_rfl))
  t3 := Tryd.underlying3
  a3 := Tryd.isAgg3
  z3 := Tryd.sizeOf3
  v3 := Tryd.zeroValue3
  t4 := Tryd.underlying4
  a4 := Tryd.isAgg4
  z4 := Tryd.sizeOf4
  v4 := Tryd.zeroValue4
  t5 := Tryd.underlying5
  a5 := Tryd.isAgg5
  z5 := Tryd.sizeOf5
  v5 := Tryd.zeroValue5
  t9 := Tryd.underlying9
  a9 := Tryd.isAgg9
  z9 := Tryd.sizeOf9
  v9 := Tryd.zeroValue9
  t46 := Tryd.underlying72
  a46 := Tryd.isAgg72
  z46 := Tryd.sizeOf72
  v46 := Tryd.zeroValue72
  t51 := Tryd.underlying32
  a51 := Tryd.isAgg32
  z51 := Tryd.sizeOf32
  v51 := Tryd.zeroValue32
  t146 := Tryd.underlying111
  a146 := Tryd.isAgg111
  z146 := Tryd.sizeOf111
  v146 := Tryd.zeroValue111
  g1 := by kernel_rfl }
open Go.RowKit Go.Lib in
theorem Tryd.strings_Index_one (s : ByteArray) (c : UInt8) (w : World) :
    Calls Tryd.prog 79 #[.string s, .string ⟨#[c]⟩] w fun e w' => e = .returned (.int .i64 (Lib.indexByte s.data.toList c)) ∧ w' = w := Any.strings_Index_one Tryd.lays143 s c w
def Tryd.lays212_ren : Go.Shelf.Ren := ⟨fun | 212 => 64 | 263 => 84 | 264 => 85 | n => n, fun | 46 => 72 | 51 => 32 | 146 => 111 | 53 => 54 | 148 => 113 | n => n, fun | n => n⟩
theorem Tryd.lays212 : Go.Proofs.Lays.n212 Tryd.prog Tryd.lays212_ren := {
  mixed := by kernel_rfl
  f212 := Tryd.func64.trans (congrArg some (by kernel_rfl))
  f263 := Tryd.func84.trans (congrArg some (by kernel_rfl))
  f264 := Tryd.func85.trans (congrArg some (by kernel_rfl))
  t46 := Tryd.underlying72
  a46 := Tryd.isAgg72
  z46 := Tryd.sizeOf72
  v46 := Tryd.zeroValue72
  t51 := Tryd.underlying32
  a51 := Tryd.isAgg32
  z51 := Tryd.sizeOf32
  v51 := Tryd.zeroValue32
  t53 := Tryd.underlying54
  a53 := Tryd.isAgg54
  z53 := Tryd.sizeOf54
  v53 := Tryd.zeroValue54
  t146 := Tryd.underlying111
  a146 := Tryd.isAgg111
  z146 := Tryd.sizeOf111
  v146 := Tryd.zeroValue111
  t148 := Tryd.underlying113
  a148 := Tryd.isAgg113
  z148 := Tryd.sizeOf113
  v148 := Tryd.zeroValue113 }
open Go.RowKit Go.Lib in
theorem Tryd.bits_Mul (x y : Nat) (hx : x < 18446744073709551616) (hy : y < 18446744073709551616) (w : World) :
    Calls Tryd.prog 64 #[.int .u64 x, .int .u64 y] w fun e w' => e = .returned (.tuple #[.int .u64 ((x * y / 18446744073709551616 : Nat) : Int), .int .u64 ((x * y % 18446744073709551616 : Nat) : Int)]) ∧ w' = w := Any.bits_Mul Tryd.lays212 x y hx hy w
end Go.Proofs
end
section
set_option maxRecDepth 100000
namespace Go.Proofs.YtflfamhboalgiaaDoor
open Go.Sh
def Zbpk : Plan := ⟨[], [(7, [4, 6, 7], [.slice, .bool, .int .i64], [5])], [], []⟩
theorem Zcsc : Known Tryd.prog Zmd Tryd.f12 Zbpk (Zd Tryd.f12) := by refine ⟨Tryd.func12, ?_, ?_, ?_, ?_, ?_⟩ <;> kernel_rfl
def Zqe (out4a_1 : Option Addr) (out4n_1 : Nat) (out4c_1 : Nat) (x18a : Option Addr) (x18n : Nat) (x18c : Nat) (i7 : Int) (next7 : ((Option Addr × Nat × Nat) × Bool × Int × Unit) -> Heap -> Prop) (in6_1 : Bool) (H18 : Heap) (R : Value -> Heap -> Prop) : Prop :=
 next7 ((out4a_1, out4n_1, out4c_1), (in6_1, ((IntKind.wrap .i64 (i7 + 1)), ()))) H18
def Zbxi (out4a_1 : Option Addr) (out4n_1 : Nat) (out4c_1 : Nat) (x18a : Option Addr) (x18n : Nat) (x18c : Nat) (in6 : Bool) (i7 : Int) (opens9 : Bool) (closes10 : Bool) (next7 : ((Option Addr × Nat × Nat) × Bool × Int × Unit) -> Heap -> Prop) (H17 : Heap) (R : Value -> Heap -> Prop) : Prop :=
 IfB in6
 (Zqe out4a_1 out4n_1 out4c_1 x18a x18n x18c i7 next7 (!closes10) H17 R)
 (IfB opens9
 (Zqe out4a_1 out4n_1 out4c_1 x18a x18n x18c i7 next7 (!closes10) H17 R)
 (Zqe out4a_1 out4n_1 out4c_1 x18a x18n x18c i7 next7 false H17 R))
def Zxt (x18a : Option Addr) (x18n : Nat) (x18c : Nat) (in6 : Bool) (i7 : Int) (opens9 : Bool) (closes10 : Bool) (x58r0 : Int) (next7 : ((Option Addr × Nat × Nat) × Bool × Int × Unit) -> Heap -> Prop) (out4a_1 : Option Addr) (out4n_1 : Nat) (out4c_1 : Nat) (H13 : Heap) (R : Value -> Heap -> Prop) : Prop :=
 NilP out4a_1 fun x120q =>
 InB (IntKind.wrap .i64 ((out4n_1 : Int) - 1)) out4n_1 fun x120i =>
 elemAt x120q x120i 2 fun x120p =>
 ∃ (x122a : Option Addr) (x122n x122c : Nat), H13.cell ⟨x120p.block, x120p.off + 1, none⟩ = some (Value.slice x122a x122n x122c) ∧
 NewW H13 (Obj.cells ⟨[(Value.int .u32 (IntKind.wrap .u32 x58r0))]⟩ Zl) fun x125b H14 =>
 AppW Tryd.prog #[Zbt, Zbt] Zbt [(Value.slice x122a x122n x122c), (Value.slice (some ⟨x125b, 0, none⟩) 1 1)] H14 fun x126v H15 =>
 ∃ (x126a : Option Addr) (x126n x126c : Nat), x126v = (Value.slice x126a x126n x126c) ∧
 NilP out4a_1 fun x127q =>
 InB (IntKind.wrap .i64 ((out4n_1 : Int) - 1)) out4n_1 fun x127i =>
 elemAt x127q x127i 2 fun x127p =>
 Zt H15 ⟨x127p.block, x127p.off + 1, none⟩ (Value.slice x126a x126n x126c) fun H16 =>
 Zbxi out4a_1 out4n_1 out4c_1 x18a x18n x18c in6 i7 opens9 closes10 next7 H16 R
def Zoj (out4a : Option Addr) (out4n : Nat) (out4c : Nat) (x18a : Option Addr) (x18n : Nat) (x18c : Nat) (in6 : Bool) (i7 : Int) (opens9 : Bool) (closes10 : Bool) (x58r0 : Int) (next7 : ((Option Addr × Nat × Nat) × Bool × Int × Unit) -> Heap -> Prop) (x106 : Bool) (H10 : Heap) (R : Value -> Heap -> Prop) : Prop :=
 IfB x106
 (NewW H10 (Obj.cells ⟨[(Value.bool opens9), (Value.slice none 0 0)]⟩ Zh) fun x110b H11 =>
 AppW Tryd.prog #[Zq, Zq] Zq [(Value.slice out4a out4n out4c), (Value.slice (some ⟨x110b, 0, none⟩) 1 1)] H11 fun x111v H12 =>
 ∃ (x111a : Option Addr) (x111n x111c : Nat), x111v = (Value.slice x111a x111n x111c) ∧
 Zxt x18a x18n x18c in6 i7 opens9 closes10 x58r0 next7 x111a x111n x111c H12 R)
 (Zxt x18a x18n x18c in6 i7 opens9 closes10 x58r0 next7 out4a out4n out4c H10 R)
def Zeo (out4a : Option Addr) (out4n : Nat) (out4c : Nat) (x18a : Option Addr) (x18n : Nat) (x18c : Nat) (in6 : Bool) (i7 : Int) (opens9 : Bool) (closes10 : Bool) (x58r0 : Int) (next7 : ((Option Addr × Nat × Nat) × Bool × Int × Unit) -> Heap -> Prop) (x87 : Bool) (H9 : Heap) (R : Value -> Heap -> Prop) : Prop :=
 IfB x87
 (R (Value.tuple ⟨[(Value.slice none 0 0), (Value.int .i64 5)]⟩) H9)
 (IfB opens9
 (Zoj out4a out4n out4c x18a x18n x18c in6 i7 opens9 closes10 x58r0 next7 true H9 R)
 (IfB (!in6)
 (IfB (((out4n : Int) : Int) == 0)
 (Zoj out4a out4n out4c x18a x18n x18c in6 i7 opens9 closes10 x58r0 next7 true H9 R)
 (NilP out4a fun x101q =>
 InB (IntKind.wrap .i64 ((out4n : Int) - 1)) out4n fun x101i =>
 elemAt x101q x101i 2 fun x101p =>
 ∃ x103 : Bool, H9.cell x101p = some (Value.bool x103) ∧
 Zoj out4a out4n out4c x18a x18n x18c in6 i7 opens9 closes10 x58r0 next7 x103 H9 R))
 (Zoj out4a out4n out4c x18a x18n x18c in6 i7 opens9 closes10 x58r0 next7 false H9 R)))
def Zsv (out4a : Option Addr) (out4n : Nat) (out4c : Nat) (x18a : Option Addr) (x18n : Nat) (x18c : Nat) (in6 : Bool) (i7 : Int) (opens9 : Bool) (next7 : ((Option Addr × Nat × Nat) × Bool × Int × Unit) -> Heap -> Prop) (w8_1 : ByteArray) (closes10 : Bool) (H7 : Heap) (R : Value -> Heap -> Prop) : Prop :=
 FnW Tryd.prog Zuw ⟨[(Value.string w8_1), (Value.int .i64 10)]⟩ H7 fun x58v H8 =>
 ∃ x58r0 : Int, ∃ x58r1 : Bool, x58v = (Value.tuple ⟨[(Value.int .i64 x58r0), (Value.bool x58r1)]⟩) ∧
 IfB (!x58r1)
 (Zeo out4a out4n out4c x18a x18n x18c in6 i7 opens9 closes10 x58r0 next7 true H8 R)
 (IfB (decide ((x58r0 : Int) < 1))
 (Zeo out4a out4n out4c x18a x18n x18c in6 i7 opens9 closes10 x58r0 next7 true H8 R)
 (IfB (decide ((x58r0 : Int) > 4294967295))
 (Zeo out4a out4n out4c x18a x18n x18c in6 i7 opens9 closes10 x58r0 next7 true H8 R)
 (IfB opens9
 (IfB in6
 (Zeo out4a out4n out4c x18a x18n x18c in6 i7 opens9 closes10 x58r0 next7 true H8 R)
 (IfB closes10
 (IfB (!in6)
 (Zeo out4a out4n out4c x18a x18n x18c in6 i7 opens9 closes10 x58r0 next7 (!opens9) H8 R)
 (Zeo out4a out4n out4c x18a x18n x18c in6 i7 opens9 closes10 x58r0 next7 false H8 R))
 (Zeo out4a out4n out4c x18a x18n x18c in6 i7 opens9 closes10 x58r0 next7 false H8 R)))
 (IfB closes10
 (IfB (!in6)
 (Zeo out4a out4n out4c x18a x18n x18c in6 i7 opens9 closes10 x58r0 next7 (!opens9) H8 R)
 (Zeo out4a out4n out4c x18a x18n x18c in6 i7 opens9 closes10 x58r0 next7 false H8 R))
 (Zeo out4a out4n out4c x18a x18n x18c in6 i7 opens9 closes10 x58r0 next7 false H8 R)))))
def Zvp (out4a : Option Addr) (out4n : Nat) (out4c : Nat) (x18a : Option Addr) (x18n : Nat) (x18c : Nat) (in6 : Bool) (i7 : Int) (w8 : ByteArray) (opens9 : Bool) (next7 : ((Option Addr × Nat × Nat) × Bool × Int × Unit) -> Heap -> Prop) (x50 : Bool) (H6 : Heap) (R : Value -> Heap -> Prop) : Prop :=
 IfB x50
 (InC (IntKind.wrap .i64 ((w8.size : Int) - 1)) w8.size fun x55h =>
 Zsv out4a out4n out4c x18a x18n x18c in6 i7 opens9 next7 (ByteArray.extract w8 0 x55h) true H6 R)
 (Zsv out4a out4n out4c x18a x18n x18c in6 i7 opens9 next7 w8 false H6 R)
def Zqp (out4a : Option Addr) (out4n : Nat) (out4c : Nat) (x18a : Option Addr) (x18n : Nat) (x18c : Nat) (in6 : Bool) (i7 : Int) (opens9 : Bool) (next7 : ((Option Addr × Nat × Nat) × Bool × Int × Unit) -> Heap -> Prop) (w8 : ByteArray) (H5 : Heap) (R : Value -> Heap -> Prop) : Prop :=
 IfB (decide (((w8.size : Int) : Int) > 0))
 (InB (IntKind.wrap .i64 ((w8.size : Int) - 1)) w8.size fun x48i =>
 Zvp out4a out4n out4c x18a x18n x18c in6 i7 w8 opens9 next7 ((((w8.data.getD x48i 0).toNat : Int) : Int) == 125) H5 R)
 (Zvp out4a out4n out4c x18a x18n x18c in6 i7 w8 opens9 next7 false H5 R)
def Zoc (out4a : Option Addr) (out4n : Nat) (out4c : Nat) (x18a : Option Addr) (x18n : Nat) (x18c : Nat) (in6 : Bool) (i7 : Int) (x28 : ByteArray) (next7 : ((Option Addr × Nat × Nat) × Bool × Int × Unit) -> Heap -> Prop) (opens9 : Bool) (H4 : Heap) (R : Value -> Heap -> Prop) : Prop :=
 IfB opens9
 (InC 1 x28.size fun x39l =>
 Zqp out4a out4n out4c x18a x18n x18c in6 i7 opens9 next7 (ByteArray.extract x28 x39l x28.size) H4 R)
 (Zqp out4a out4n out4c x18a x18n x18c in6 i7 opens9 next7 x28 H4 R)
def Zvu (out4a : Option Addr) (out4n : Nat) (out4c : Nat) (next7 : ((Option Addr × Nat × Nat) × Bool × Int × Unit) -> Heap -> Prop) (x142 : Bool) (H19 : Heap) (R : Value -> Heap -> Prop) : Prop :=
 IfB x142
 (R (Value.tuple ⟨[(Value.slice none 0 0), (Value.int .i64 5)]⟩) H19)
 (R (Value.tuple ⟨[(Value.slice out4a out4n out4c), (Value.int .i64 0)]⟩) H19)
def Zbcp (x18a : Option Addr) (x18n : Nat) (x18c : Nat) (out4a : Option Addr) (out4n : Nat) (out4c : Nat) (in6 : Bool) (i7 : Int) (H3 : Heap) (next7 : ((Option Addr × Nat × Nat) × Bool × Int × Unit) -> Heap -> Prop) (R : Value -> Heap -> Prop) : Prop :=
 IfB (decide ((i7 : Int) < (x18n : Int)))
 (NilP x18a fun x27q =>
 InB i7 x18n fun x27i =>
 elemAt x27q x27i 1 fun x27p =>
 ∃ x28 : ByteArray, H3.cell x27p = some (Value.string x28) ∧
 IfB (decide (((x28.size : Int) : Int) > 0))
 (InB 0 x28.size fun x34i =>
 Zoc out4a out4n out4c x18a x18n x18c in6 i7 x28 next7 ((((x28.data.getD x34i 0).toNat : Int) : Int) == 123) H3 R)
 (Zoc out4a out4n out4c x18a x18n x18c in6 i7 x28 next7 false H3 R))
 (IfB in6
 (Zvu out4a out4n out4c next7 true H3 R)
 (FnW Tryd.prog Zht ⟨[(Value.slice out4a out4n out4c)]⟩ H3 fun x140v H20 =>
 ∃ x140 : Int, x140v = (Value.int .i64 x140) ∧
 Zvu out4a out4n out4c next7 ((x140 : Int) != 0) H20 R))
def Zbaq (s0 : ByteArray) (H : Heap) (R : Value -> Heap -> Prop) : Prop :=
 NewW H (Obj.cells ⟨[]⟩ Zh) fun x13b H1 =>
 IfB (s0.toList == (ByteArray.mk #[]).toList)
 (R (Value.tuple ⟨[(Value.slice (some ⟨x13b, 0, none⟩) 0 0), (Value.int .i64 0)]⟩) H1)
 (FnW Tryd.prog Zwc ⟨[(Value.string s0), (Value.int .u8 32)]⟩ H1 fun x18v H2 =>
 ∃ (x18a : Option Addr) (x18n x18c : Nat), x18v = (Value.slice x18a x18n x18c) ∧
 Zgz ((Option Addr × Nat × Nat) × Bool × Int × Unit) (((some ⟨x13b, 0, none⟩), 0, 0), (false, (0, ()))) H2 fun x H next => ∀ _g : Env, Zbcp x18a x18n x18c x.1.1 x.1.2.1 x.1.2.2 x.2.1 x.2.2.1 H next R)
theorem Zcqi (s0 : ByteArray) (H : Heap) (R : Value -> Heap -> Prop) : Zbaq s0 H R = Za Tryd.prog Zbpk (Zd Tryd.f12) (env0 [(Value.string s0)]) H (RetW Tryd.prog Tryd.f12.results.toList R) := by kernel_rfl
theorem Zcee (s0 : ByteArray) {H : Heap} {R : Value -> Heap -> Prop} (h : Zbaq s0 H fun v H1 => ∀ H2, Shut H H1 H2 -> R v H2) : FnW Tryd.prog Zmd ⟨[(Value.string s0)]⟩ H R := FnW.of_code Zcsc (by kernel_rfl) (Eq.mp (Zcqi s0 H _) h)
def Zbpi : Plan := ⟨[], [], [], []⟩
theorem Zcqx : Known Tryd.prog Zjw Tryd.f15 Zbpi (Zd Tryd.f15) := by refine ⟨Tryd.func15, ?_, ?_, ?_, ?_, ?_⟩ <;> kernel_rfl
def Znj (x31a : Option Addr) (x31n : Nat) (x31c : Nat) (x38a : Option Addr) (x38n : Nat) (x38c : Nat) (x48 : Bool) (H7 : Heap) (R : Value -> Heap -> Prop) : Prop :=
 IfB x48
 (NilP x31a fun x52q =>
 InB 0 x31n fun x52i =>
 elemAt x52q x52i 2 fun x52p =>
 ∃ (x54a : Option Addr) (x54n x54c : Nat), H7.cell ⟨x52p.block, x52p.off + 1, none⟩ = some (Value.slice x54a x54n x54c) ∧
 AppW Tryd.prog #[Zbt, Zbt] Zbt [(Value.slice x38a x38n x38c), (Value.slice x54a x54n x54c)] H7 fun x55v H8 =>
 ∃ (x55a : Option Addr) (x55n x55c : Nat), x55v = (Value.slice x55a x55n x55c) ∧
 NilP x31a fun x56q =>
 InB 0 x31n fun x56i =>
 elemAt x56q x56i 2 fun x56p =>
 Zt H8 ⟨x56p.block, x56p.off + 1, none⟩ (Value.slice x55a x55n x55c) fun H9 =>
 R (Value.tuple ⟨[(Value.slice x31a x31n x31c), (Value.int .i64 0)]⟩) H9)
 (NewW H7 (Obj.cells ⟨[(Value.bool false), (Value.slice x38a x38n x38c)]⟩ Zh) fun x62b H10 =>
 FnW Tryd.prog Ztx ⟨[(Value.slice x31a x31n x31c), (Value.int .i64 0), (Value.slice (some ⟨x62b, 0, none⟩) 1 1)]⟩ H10 fun x63v H11 =>
 ∃ (x63a : Option Addr) (x63n x63c : Nat), x63v = (Value.slice x63a x63n x63c) ∧
 R (Value.tuple ⟨[(Value.slice x63a x63n x63c), (Value.int .i64 0)]⟩) H11)
def Zqr (p0a : Option Addr) (p0n : Nat) (p0c : Nat) (as1 : Int) (n2 : Int) (x17 : Bool) (H2 : Heap) (R : Value -> Heap -> Prop) : Prop :=
 IfB x17
 (R (Value.tuple ⟨[(Value.slice none 0 0), (Value.int .i64 2)]⟩) H2)
 (FnW Tryd.prog Zna ⟨[(Value.slice p0a p0n p0c)]⟩ H2 fun x27v H3 =>
 ∃ x27 : Int, x27v = (Value.int .i64 x27) ∧
 IfB (decide ((n2 : Int) > (IntKind.wrap .i64 (64 - x27))))
 (R (Value.tuple ⟨[(Value.slice none 0 0), (Value.int .i64 3)]⟩) H3)
 (FnW Tryd.prog Zhw ⟨[(Value.slice p0a p0n p0c)]⟩ H3 fun x31v H4 =>
 ∃ (x31a : Option Addr) (x31n x31c : Nat), x31v = (Value.slice x31a x31n x31c) ∧
 IfB ((n2 : Int) == 0)
 (R (Value.tuple ⟨[(Value.slice x31a x31n x31c), (Value.int .i64 0)]⟩) H4)
 (NewW H4 (Obj.cells ⟨[(Value.int .u32 as1)]⟩ Zl) fun x36b H5 =>
 FnW Tryd.prog Zvv ⟨[(Value.slice (some ⟨x36b, 0, none⟩) 1 1), (Value.int .i64 n2)]⟩ H5 fun x38v H6 =>
 ∃ (x38a : Option Addr) (x38n x38c : Nat), x38v = (Value.slice x38a x38n x38c) ∧
 IfB (decide (((x31n : Int) : Int) > 0))
 (NilP x31a fun x44q =>
 InB 0 x31n fun x44i =>
 elemAt x44q x44i 2 fun x44p =>
 ∃ x46 : Bool, H6.cell x44p = some (Value.bool x46) ∧
 Znj x31a x31n x31c x38a x38n x38c (!x46) H6 R)
 (Znj x31a x31n x31c x38a x38n x38c false H6 R))))
def Zbje (p0a : Option Addr) (p0n : Nat) (p0c : Nat) (as1 : Int) (n2 : Int) (H : Heap) (R : Value -> Heap -> Prop) : Prop :=
 FnW Tryd.prog Zgv ⟨[(Value.slice p0a p0n p0c)]⟩ H fun x12v H1 =>
 ∃ x12 : Int, x12v = (Value.int .i64 x12) ∧
 IfB ((x12 : Int) != 0)
 (R (Value.tuple ⟨[(Value.slice none 0 0), (Value.int .i64 x12)]⟩) H1)
 (IfB ((as1 : Int) == 0)
 (Zqr p0a p0n p0c as1 n2 true H1 R)
 (Zqr p0a p0n p0c as1 n2 (decide ((n2 : Int) < 0)) H1 R))
theorem Zcde (p0a : Option Addr) (p0n : Nat) (p0c : Nat) (as1 : Int) (n2 : Int) (H : Heap) (R : Value -> Heap -> Prop) : Zbje p0a p0n p0c as1 n2 H R = Za Tryd.prog Zbpi (Zd Tryd.f15) (env0 [(Value.slice p0a p0n p0c), (Value.int .u32 as1), (Value.int .i64 n2)]) H (RetW Tryd.prog Tryd.f15.results.toList R) := by kernel_rfl
theorem Zcjz (p0a : Option Addr) (p0n : Nat) (p0c : Nat) (as1 : Int) (n2 : Int) {H : Heap} {R : Value -> Heap -> Prop} (h : Zbje p0a p0n p0c as1 n2 H fun v H1 => ∀ H2, Shut H H1 H2 -> R v H2) : FnW Tryd.prog Zjw ⟨[(Value.slice p0a p0n p0c), (Value.int .u32 as1), (Value.int .i64 n2)]⟩ H R := FnW.of_code Zcqx (by kernel_rfl) (Eq.mp (Zcde p0a p0n p0c as1 n2 H _) h)
def Zbwr : Plan := ⟨[], [(6, [5, 6, 7], [.int .i64, .slice, .int .i64], [0, 1])], [], []⟩
theorem Zccz : Known Tryd.prog Znx Tryd.f18 Zbwr (Zd Tryd.f18) := by refine ⟨Tryd.func18, ?_, ?_, ?_, ?_, ?_⟩ <;> kernel_rfl
def Ztm (two0a : Option Addr) (two0n : Nat) (two0c : Nat) (four1a : Option Addr) (four1n : Nat) (four1c : Nat) (out6a : Option Addr) (out6n : Nat) (out6c : Nat) (i7 : Int) (s8b : Nat) (next6 : (Int × (Option Addr × Nat × Nat) × Int × Unit) -> Heap -> Prop) (left5_1 : Int) (H11 : Heap) (R : Value -> Heap -> Prop) : Prop :=
 ∃ x57c0 : Bool, H11.cell ⟨s8b, 0, none⟩ = some (Value.bool x57c0) ∧ ∃ (x57c1a : Option Addr) (x57c1n x57c1c : Nat), H11.cell ⟨s8b, 1, none⟩ = some (Value.slice x57c1a x57c1n x57c1c) ∧ NewW H11 (Obj.cells ⟨[(Value.bool x57c0), (Value.slice x57c1a x57c1n x57c1c)]⟩ Zh) fun x58b H12 =>
 AppW Tryd.prog #[Zq, Zq] Zq [(Value.slice out6a out6n out6c), (Value.slice (some ⟨x58b, 0, none⟩) 1 1)] H12 fun x59v H13 =>
 ∃ (x59a : Option Addr) (x59n x59c : Nat), x59v = (Value.slice x59a x59n x59c) ∧
 next6 (left5_1, ((x59a, x59n, x59c), ((IntKind.wrap .i64 (i7 + 1)), ()))) H13
def Zwe (out6a : Option Addr) (out6n : Nat) (out6c : Nat) (next6 : (Int × (Option Addr × Nat × Nat) × Int × Unit) -> Heap -> Prop) (more9a : Option Addr) (more9n : Nat) (more9c : Nat) (H19 : Heap) (R : Value -> Heap -> Prop) : Prop :=
 AppW Tryd.prog #[Zq, Zq] Zq [(Value.slice out6a out6n out6c), (Value.slice more9a more9n more9c)] H19 fun x109v H20 =>
 ∃ (x109a : Option Addr) (x109n x109c : Nat), x109v = (Value.slice x109a x109n x109c) ∧
 R (Value.slice x109a x109n x109c) H20
def Zgk (out6a : Option Addr) (out6n : Nat) (out6c : Nat) (x61a : Option Addr) (x61n : Nat) (x61c : Nat) (next6 : (Int × (Option Addr × Nat × Nat) × Int × Unit) -> Heap -> Prop) (x86 : Bool) (H16 : Heap) (R : Value -> Heap -> Prop) : Prop :=
 IfB x86
 (NilP out6a fun x95q =>
 InB (IntKind.wrap .i64 ((out6n : Int) - 1)) out6n fun x95i =>
 elemAt x95q x95i 2 fun x95p =>
 ∃ (x97a : Option Addr) (x97n x97c : Nat), H16.cell ⟨x95p.block, x95p.off + 1, none⟩ = some (Value.slice x97a x97n x97c) ∧
 NilP x61a fun x99q =>
 InB 0 x61n fun x99i =>
 elemAt x99q x99i 2 fun x99p =>
 ∃ (x101a : Option Addr) (x101n x101c : Nat), H16.cell ⟨x99p.block, x99p.off + 1, none⟩ = some (Value.slice x101a x101n x101c) ∧
 AppW Tryd.prog #[Zbt, Zbt] Zbt [(Value.slice x97a x97n x97c), (Value.slice x101a x101n x101c)] H16 fun x102v H17 =>
 ∃ (x102a : Option Addr) (x102n x102c : Nat), x102v = (Value.slice x102a x102n x102c) ∧
 NilP out6a fun x103q =>
 InB (IntKind.wrap .i64 ((out6n : Int) - 1)) out6n fun x103i =>
 elemAt x103q x103i 2 fun x103p =>
 Zt H17 ⟨x103p.block, x103p.off + 1, none⟩ (Value.slice x102a x102n x102c) fun H18 =>
 InC 1 x61n fun x106l =>
 Zwe out6a out6n out6c next6 (if x61c = x106l then x61a else Option.map (fun a => Addr.add a (x106l * 2)) x61a) (x61n - x106l) (x61c - x106l) H18 R)
 (Zwe out6a out6n out6c next6 x61a x61n x61c H16 R)
def Zsc (two0a : Option Addr) (two0n : Nat) (two0c : Nat) (four1a : Option Addr) (four1n : Nat) (four1c : Nat) (left5 : Int) (out6a : Option Addr) (out6n : Nat) (out6c : Nat) (i7 : Int) (next6 : (Int × (Option Addr × Nat × Nat) × Int × Unit) -> Heap -> Prop) (x27 : Bool) (H6 : Heap) (R : Value -> Heap -> Prop) : Prop :=
 IfB x27
 (InC (IntKind.wrap .i64 (i7 + 1)) two0c fun x34h =>
 InC i7 x34h fun x34l =>
 FnW Tryd.prog Zhe ⟨[(Value.slice (if two0c = x34l then two0a else Option.map (fun a => Addr.add a (x34l * 2)) two0a) (x34h - x34l) (two0c - x34l))]⟩ H6 fun x35v H7 =>
 ∃ (x35a : Option Addr) (x35n x35c : Nat), x35v = (Value.slice x35a x35n x35c) ∧
 NilP x35a fun x36q =>
 InB 0 x35n fun x36i =>
 elemAt x36q x36i 2 fun x36p =>
 ∃ x37c0 : Bool, H7.cell x36p = some (Value.bool x37c0) ∧ ∃ (x37c1a : Option Addr) (x37c1n x37c1c : Nat), H7.cell ⟨x36p.block, x36p.off + 1, none⟩ = some (Value.slice x37c1a x37c1n x37c1c) ∧ NewW H7 (Obj.cells ⟨[(Value.bool false), (Value.slice none 0 0)]⟩ Zh) fun s8b H8 =>
 Zt H8 ⟨s8b, 0, none⟩ (Value.bool x37c0) fun H9 =>
 Zt H9 ⟨s8b, 1, none⟩ (Value.slice x37c1a x37c1n x37c1c) fun H10 =>
 ∃ x39 : Bool, H10.cell ⟨s8b, 0, none⟩ = some (Value.bool x39) ∧
 IfB x39
 (Ztm two0a two0n two0c four1a four1n four1c out6a out6n out6c i7 s8b next6 (IntKind.wrap .i64 (left5 - 1)) H10 R)
 (∃ (x43a : Option Addr) (x43n x43c : Nat), H10.cell ⟨s8b, 1, none⟩ = some (Value.slice x43a x43n x43c) ∧
 ∃ (x46a : Option Addr) (x46n x46c : Nat), H10.cell ⟨s8b, 1, none⟩ = some (Value.slice x46a x46n x46c) ∧
 InC (min left5 (x46n : Int)) x43c fun x49h =>
 Zt H10 ⟨s8b, 1, none⟩ (Value.slice x43a x49h x43c) fun H14 =>
 ∃ (x53a : Option Addr) (x53n x53c : Nat), H14.cell ⟨s8b, 1, none⟩ = some (Value.slice x53a x53n x53c) ∧
 Ztm two0a two0n two0c four1a four1n four1c out6a out6n out6c i7 s8b next6 (IntKind.wrap .i64 (left5 - (x53n : Int))) H14 R))
 (FnW Tryd.prog Zhe ⟨[(Value.slice four1a four1n four1c)]⟩ H6 fun x61v H15 =>
 ∃ (x61a : Option Addr) (x61n x61c : Nat), x61v = (Value.slice x61a x61n x61c) ∧
 IfB (decide (((out6n : Int) : Int) > 0))
 (IfB (decide (((x61n : Int) : Int) > 0))
 (NilP out6a fun x75q =>
 InB (IntKind.wrap .i64 ((out6n : Int) - 1)) out6n fun x75i =>
 elemAt x75q x75i 2 fun x75p =>
 ∃ x77 : Bool, H15.cell x75p = some (Value.bool x77) ∧
 IfB (!x77)
 (NilP x61a fun x82q =>
 InB 0 x61n fun x82i =>
 elemAt x82q x82i 2 fun x82p =>
 ∃ x84 : Bool, H15.cell x82p = some (Value.bool x84) ∧
 Zgk out6a out6n out6c x61a x61n x61c next6 (!x84) H15 R)
 (Zgk out6a out6n out6c x61a x61n x61c next6 false H15 R))
 (Zgk out6a out6n out6c x61a x61n x61c next6 false H15 R))
 (Zgk out6a out6n out6c x61a x61n x61c next6 false H15 R))
def Zbgl (two0a : Option Addr) (two0n : Nat) (two0c : Nat) (four1a : Option Addr) (four1n : Nat) (four1c : Nat) (left5 : Int) (out6a : Option Addr) (out6n : Nat) (out6c : Nat) (i7 : Int) (H5 : Heap) (next6 : (Int × (Option Addr × Nat × Nat) × Int × Unit) -> Heap -> Prop) (R : Value -> Heap -> Prop) : Prop :=
 IfB (decide ((i7 : Int) < (two0n : Int)))
 (Zsc two0a two0n two0c four1a four1n four1c left5 out6a out6n out6c i7 next6 (decide ((left5 : Int) > 0)) H5 R)
 (Zsc two0a two0n two0c four1a four1n four1c left5 out6a out6n out6c i7 next6 false H5 R)
def Zbix (two0a : Option Addr) (two0n : Nat) (two0c : Nat) (four1a : Option Addr) (four1n : Nat) (four1c : Nat) (H : Heap) (R : Value -> Heap -> Prop) : Prop :=
 FnW Tryd.prog Zsd ⟨[(Value.slice two0a two0n two0c)]⟩ H fun x11v H1 =>
 ∃ x11 : Int, x11v = (Value.int .i64 x11) ∧
 FnW Tryd.prog Zsd ⟨[(Value.slice four1a four1n four1c)]⟩ H1 fun x13v H2 =>
 ∃ x13 : Int, x13v = (Value.int .i64 x13) ∧
 IfB (decide (((IntKind.wrap .i64 (x11 - x13)) : Int) < 0))
 (FnW Tryd.prog Zhe ⟨[(Value.slice two0a two0n two0c)]⟩ H2 fun x18v H3 =>
 ∃ (x18a : Option Addr) (x18n x18c : Nat), x18v = (Value.slice x18a x18n x18c) ∧
 R (Value.slice x18a x18n x18c) H3)
 (NewW H2 (Obj.cells ⟨[]⟩ Zh) fun x19b H4 =>
 Zgz (Int × (Option Addr × Nat × Nat) × Int × Unit) ((IntKind.wrap .i64 (x11 - x13)), (((some ⟨x19b, 0, none⟩), 0, 0), (0, ()))) H4 fun x H next => ∀ _g : Env, Zbgl two0a two0n two0c four1a four1n four1c x.1 x.2.1.1 x.2.1.2.1 x.2.1.2.2 x.2.2.1 H next R)
theorem Zchf (two0a : Option Addr) (two0n : Nat) (two0c : Nat) (four1a : Option Addr) (four1n : Nat) (four1c : Nat) (H : Heap) (R : Value -> Heap -> Prop) : Zbix two0a two0n two0c four1a four1n four1c H R = Za Tryd.prog Zbwr (Zd Tryd.f18) (env0 [(Value.slice two0a two0n two0c), (Value.slice four1a four1n four1c)]) H (RetW Tryd.prog Tryd.f18.results.toList R) := by kernel_rfl
theorem Zcot (two0a : Option Addr) (two0n : Nat) (two0c : Nat) (four1a : Option Addr) (four1n : Nat) (four1c : Nat) {H : Heap} {R : Value -> Heap -> Prop} (h : Zbix two0a two0n two0c four1a four1n four1c H fun v H1 => ∀ H2, Shut H H1 H2 -> R v H2) : FnW Tryd.prog Znx ⟨[(Value.slice two0a two0n two0c), (Value.slice four1a four1n four1c)]⟩ H R := FnW.of_code Zccz (by kernel_rfl) (Eq.mp (Zchf two0a two0n two0c four1a four1n four1c H _) h)
def Zbvb : Plan := ⟨[], [], [], []⟩
theorem Zccu : Known Tryd.prog Znv Tryd.f31 Zbvb (Zd Tryd.f31) := by refine ⟨Tryd.func31, ?_, ?_, ?_, ?_, ?_⟩ <;> kernel_rfl
def Zbeq (p0a : Option Addr) (p0n : Nat) (p0c : Nat) (as1 : Int) (H : Heap) (R : Value -> Heap -> Prop) : Prop :=
 NewW H (Obj.cells ⟨[(Value.int .u32 as1)]⟩ Zl) fun as3b H1 =>
 FnW Tryd.prog Zbef ⟨[(Value.slice p0a p0n p0c), (Value.func (.func Zkj) #[] #[(Value.pointer (some ⟨as3b, 0, none⟩))])]⟩ H1 fun x7v H2 =>
 ∃ x7 : Bool, x7v = (Value.bool x7) ∧
 R (Value.bool x7) H2
theorem Zcej (p0a : Option Addr) (p0n : Nat) (p0c : Nat) (as1 : Int) (H : Heap) (R : Value -> Heap -> Prop) : Zbeq p0a p0n p0c as1 H R = Za Tryd.prog Zbvb (Zd Tryd.f31) (env0 [(Value.slice p0a p0n p0c), (Value.int .u32 as1)]) H (RetW Tryd.prog Tryd.f31.results.toList R) := by kernel_rfl
theorem Zcnm (p0a : Option Addr) (p0n : Nat) (p0c : Nat) (as1 : Int) {H : Heap} {R : Value -> Heap -> Prop} (h : Zbeq p0a p0n p0c as1 H fun v H1 => ∀ H2, Shut H H1 H2 -> R v H2) : FnW Tryd.prog Znv ⟨[(Value.slice p0a p0n p0c), (Value.int .u32 as1)]⟩ H R := FnW.of_code Zccu (by kernel_rfl) (Eq.mp (Zcej p0a p0n p0c as1 H _) h)
def Zbsh : Plan := ⟨[], [], [], []⟩
theorem Zcha : Known Tryd.prog Zkc Tryd.f32 Zbsh (Zd Tryd.f32) := by refine ⟨Tryd.func32, ?_, ?_, ?_, ?_, ?_⟩ <;> kernel_rfl
def Zbfw (i0 : Int) (base1 : Int) (H : Heap) (R : Value -> Heap -> Prop) : Prop :=
 FnW Tryd.prog Zbdz ⟨[(Value.int .u64 i0), (Value.int .i64 base1)]⟩ H fun x7v H1 =>
 ∃ x7 : ByteArray, x7v = (Value.string x7) ∧
 R (Value.string x7) H1
theorem Zcdl (i0 : Int) (base1 : Int) (H : Heap) (R : Value -> Heap -> Prop) : Zbfw i0 base1 H R = Za Tryd.prog Zbsh (Zd Tryd.f32) (env0 [(Value.int .u64 i0), (Value.int .i64 base1)]) H (RetW Tryd.prog Tryd.f32.results.toList R) := by kernel_rfl
theorem Zcqb (i0 : Int) (base1 : Int) {H : Heap} {R : Value -> Heap -> Prop} (h : Zbfw i0 base1 H fun v H1 => ∀ H2, Shut H H1 H2 -> R v H2) : FnW Tryd.prog Zkc ⟨[(Value.int .u64 i0), (Value.int .i64 base1)]⟩ H R := FnW.of_code Zcha (by kernel_rfl) (Eq.mp (Zcdl i0 base1 H _) h)
def Zbuo : Plan := ⟨[], [], [], []⟩
theorem Zcpv : Known Tryd.prog Zxh Tryd.f35 Zbuo (Zd Tryd.f35) := by refine ⟨Tryd.func35, ?_, ?_, ?_, ?_, ?_⟩ <;> kernel_rfl
def Zbbk (s0 : ByteArray) (sep1 : ByteArray) (H : Heap) (R : Value -> Heap -> Prop) : Prop :=
 FnW Tryd.prog Zbgo ⟨[(Value.string s0), (Value.string sep1), (Value.int .i64 0)]⟩ H fun x7v H1 =>
 ∃ x7 : Value, x7v = x7 ∧
 R x7 H1
theorem Zctm (s0 : ByteArray) (sep1 : ByteArray) (H : Heap) (R : Value -> Heap -> Prop) : Zbbk s0 sep1 H R = Za Tryd.prog Zbuo (Zd Tryd.f35) (env0 [(Value.string s0), (Value.string sep1)]) H (RetW Tryd.prog Tryd.f35.results.toList R) := by kernel_rfl
theorem Zcrh (s0 : ByteArray) (sep1 : ByteArray) {H : Heap} {R : Value -> Heap -> Prop} (h : Zbbk s0 sep1 H fun v H1 => ∀ H2, Shut H H1 H2 -> R v H2) : FnW Tryd.prog Zxh ⟨[(Value.string s0), (Value.string sep1)]⟩ H R := FnW.of_code Zcpv (by kernel_rfl) (Eq.mp (Zctm s0 sep1 H _) h)
def Zbri : Plan := ⟨[(5, [0, 1, 2, 3, 4, 5, 6, 7, 8, 9], [17])], [(3, [3, 11], [.slice, .int .i64], [9, 10])], [], []⟩
theorem Zcvj : Known Tryd.prog Zhw Tryd.f42 Zbri (Zd Tryd.f42) := by refine ⟨Tryd.func42, ?_, ?_, ?_, ?_, ?_⟩ <;> kernel_rfl
def Zbjc (p0a : Option Addr) (p0n : Nat) (p0c : Nat) (out3a : Option Addr) (out3n : Nat) (out3c : Nat) (x11 : Int) (H2 : Heap) (next3 : ((Option Addr × Nat × Nat) × Int × Unit) -> Heap -> Prop) (R : Value -> Heap -> Prop) : Prop :=
 IfB (decide ((x11 : Int) < (p0n : Int)))
 (NilP p0a fun x13q =>
 InB x11 p0n fun x13i =>
 elemAt x13q x13i 2 fun x13p =>
 ∃ x14c0 : Bool, H2.cell x13p = some (Value.bool x14c0) ∧ ∃ (x14c1a : Option Addr) (x14c1n x14c1c : Nat), H2.cell ⟨x13p.block, x13p.off + 1, none⟩ = some (Value.slice x14c1a x14c1n x14c1c) ∧ NewW H2 (Obj.cells ⟨[(Value.bool false), (Value.slice none 0 0)]⟩ Zh) fun s5b H3 =>
 Zt H3 ⟨s5b, 0, none⟩ (Value.bool x14c0) fun H4 =>
 Zt H4 ⟨s5b, 1, none⟩ (Value.slice x14c1a x14c1n x14c1c) fun H5 =>
 ∃ bs : List Nat, (∀ b ∈ bs, ∃ o, H5 b = some o) ∧
 s5b ∈ bs ∧ ∃ x17 : Bool, H5.cell ⟨s5b, 0, none⟩ = some (Value.bool x17) ∧
 ∃ (x19a : Option Addr) (x19n x19c : Nat), H5.cell ⟨s5b, 1, none⟩ = some (Value.slice x19a x19n x19c) ∧
 FnW Tryd.prog Zjr ⟨[(Value.slice x19a x19n x19c)]⟩ H5 fun x20v H6 =>
 ∃ (x20a : Option Addr) (x20n x20c : Nat), x20v = (Value.slice x20a x20n x20c) ∧
 Zil bs H5 H6 ∧ NewW H6 (Obj.cells ⟨[(Value.bool x17), (Value.slice x20a x20n x20c)]⟩ Zh) fun x22b H7 =>
 AppW Tryd.prog #[Zq, Zq] Zq [(Value.slice out3a out3n out3c), (Value.slice (some ⟨x22b, 0, none⟩) 1 1)] H7 fun x23v H8 =>
 ∃ (x23a : Option Addr) (x23n x23c : Nat), x23v = (Value.slice x23a x23n x23c) ∧
 next3 ((x23a, x23n, x23c), ((IntKind.wrap .i64 (x11 + 1)), ())) H8)
 (R (Value.slice out3a out3n out3c) H2)
def Zzg (p0a : Option Addr) (p0n : Nat) (p0c : Nat) (H : Heap) (R : Value -> Heap -> Prop) : Prop :=
 Zfn Tryd.prog Zq (Value.int .i64 0) (Value.int .i64 (p0n : Int)) H fun x8v H1 =>
 ∃ (x8a : Option Addr) (x8n x8c : Nat), x8v = (Value.slice x8a x8n x8c) ∧
 Zgz ((Option Addr × Nat × Nat) × Int × Unit) ((x8a, x8n, x8c), (0, ())) H1 fun x H next => ∀ _g : Env, Zbjc p0a p0n p0c x.1.1 x.1.2.1 x.1.2.2 x.2.1 H next R
theorem Zcjq (p0a : Option Addr) (p0n : Nat) (p0c : Nat) (H : Heap) (R : Value -> Heap -> Prop) : Zzg p0a p0n p0c H R = Za Tryd.prog Zbri (Zd Tryd.f42) (env0 [(Value.slice p0a p0n p0c)]) H (RetW Tryd.prog Tryd.f42.results.toList R) := by kernel_rfl
theorem Zcbb (p0a : Option Addr) (p0n : Nat) (p0c : Nat) {H : Heap} {R : Value -> Heap -> Prop} (h : Zzg p0a p0n p0c H fun v H1 => ∀ H2, Shut H H1 H2 -> R v H2) : FnW Tryd.prog Zhw ⟨[(Value.slice p0a p0n p0c)]⟩ H R := FnW.of_code Zcvj (by kernel_rfl) (Eq.mp (Zcjq p0a p0n p0c H _) h)
def Zbyr : Plan := ⟨[], [(8, [8], [.int .i64], [7])], [], []⟩
theorem Zcij : Known Tryd.prog Zvv Tryd.f43 Zbyr (Zd Tryd.f43) := by refine ⟨Tryd.func43, ?_, ?_, ?_, ?_, ?_⟩ <;> kernel_rfl
def Zbhg (x30a : Option Addr) (x30n : Nat) (x30c : Nat) (n8 : Int) (H5 : Heap) (next8 : (Int × Unit) -> Heap -> Prop) (R : Value -> Heap -> Prop) : Prop :=
 IfB (decide ((n8 : Int) < (x30n : Int)))
 (InC n8 x30n fun x41l =>
 InC n8 x30c fun x44h =>
 Zdv Tryd.prog #[Zbt, Zbt] Zgu [(Value.slice (if x30c = x41l then x30a else Option.map (fun a => Addr.add a (x41l * 1)) x30a) (x30n - x41l) (x30c - x41l)), (Value.slice x30a x44h x30c)] H5 fun x45v H6 =>
 ∃ x45 : Int, x45v = (Value.int .i64 x45) ∧
 next8 ((IntKind.wrap .i64 (n8 + x45)), ()) H6)
 (R (Value.slice x30a x30n x30c) H5)
def Zbae (x0a : Option Addr) (x0n : Nat) (x0c : Nat) (x18r1 : Int) (x26 : Bool) (H2 : Heap) (R : Value -> Heap -> Prop) : Prop :=
 IfB x26
 (False)
 (Zfn Tryd.prog Zbt (Value.int .i64 (IntKind.wrap .i64 x18r1)) (Value.int .i64 (IntKind.wrap .i64 x18r1)) H2 fun x30v H3 =>
 ∃ (x30a : Option Addr) (x30n x30c : Nat), x30v = (Value.slice x30a x30n x30c) ∧
 Zdv Tryd.prog #[Zbt, Zbt] Zgu [(Value.slice x30a x30n x30c), (Value.slice x0a x0n x0c)] H3 fun x33v H4 =>
 ∃ x33 : Int, x33v = (Value.int .i64 x33) ∧
 Zgz (Int × Unit) (x33, ()) H4 fun x H next => ∀ _g : Env, Zbhg x30a x30n x30c x.1 H next R)
def Zbej (x0a : Option Addr) (x0n : Nat) (x0c : Nat) (count1 : Int) (H : Heap) (R : Value -> Heap -> Prop) : Prop :=
 IfB (decide ((count1 : Int) < 0))
 (False)
 (FnW Tryd.prog Zbpf ⟨[(Value.int .u64 (IntKind.wrap .u64 (x0n : Int))), (Value.int .u64 (IntKind.wrap .u64 count1))]⟩ H fun x18v H1 =>
 ∃ x18r0 : Int, ∃ x18r1 : Int, x18v = (Value.tuple ⟨[(Value.int .u64 x18r0), (Value.int .u64 x18r1)]⟩) ∧
 IfB (decide ((x18r0 : Int) > 0))
 (Zbae x0a x0n x0c x18r1 true H1 R)
 (Zbae x0a x0n x0c x18r1 (decide ((x18r1 : Int) > 9223372036854775807)) H1 R))
theorem Zchd (x0a : Option Addr) (x0n : Nat) (x0c : Nat) (count1 : Int) (H : Heap) (R : Value -> Heap -> Prop) : Zbej x0a x0n x0c count1 H R = Za Tryd.prog Zbyr (Zd Tryd.f43) (env0 [(Value.slice x0a x0n x0c), (Value.int .i64 count1)]) H (RetW Tryd.prog Tryd.f43.results.toList R) := by kernel_rfl
theorem Zcsw (x0a : Option Addr) (x0n : Nat) (x0c : Nat) (count1 : Int) {H : Heap} {R : Value -> Heap -> Prop} (h : Zbej x0a x0n x0c count1 H fun v H1 => ∀ H2, Shut H H1 H2 -> R v H2) : FnW Tryd.prog Zvv ⟨[(Value.slice x0a x0n x0c), (Value.int .i64 count1)]⟩ H R := FnW.of_code Zcij (by kernel_rfl) (Eq.mp (Zchd x0a x0n x0c count1 H _) h)
def Zbvh : Plan := ⟨[], [], [], []⟩
theorem Zcpa : Known Tryd.prog Ztx Tryd.f44 Zbvh (Zd Tryd.f44) := by refine ⟨Tryd.func44, ?_, ?_, ?_, ?_, ?_⟩ <;> kernel_rfl
def Zbcu (s0a : Option Addr) (s0n : Nat) (s0c : Nat) (i1 : Int) (v2a : Option Addr) (v2n : Nat) (v2c : Nat) (H : Heap) (R : Value -> Heap -> Prop) : Prop :=
 InC i1 s0n fun x12l =>
 IfB (((v2n : Int) : Int) == 0)
 (R (Value.slice s0a s0n s0c) H)
 (IfB ((i1 : Int) == (s0n : Int))
 (AppW Tryd.prog #[Zq, Zq] Zq [(Value.slice s0a s0n s0c), (Value.slice v2a v2n v2c)] H fun x25v H1 =>
 ∃ (x25a : Option Addr) (x25n x25c : Nat), x25v = (Value.slice x25a x25n x25c) ∧
 R (Value.slice x25a x25n x25c) H1)
 (IfB (decide (((IntKind.wrap .i64 ((s0n : Int) + (v2n : Int))) : Int) > (s0c : Int)))
 (InC i1 s0c fun x34h =>
 AppW Tryd.prog #[Zq, Zgu] Zq [(Value.slice s0a x34h s0c), (Value.int .i64 (IntKind.wrap .i64 ((IntKind.wrap .i64 ((s0n : Int) + (v2n : Int))) - i1)))] H fun x40v H2 =>
 ∃ (x40a : Option Addr) (x40n x40c : Nat), x40v = (Value.slice x40a x40n x40c) ∧
 InC i1 x40n fun x43l =>
 Zdv Tryd.prog #[Zq, Zq] Zgu [(Value.slice (if x40c = x43l then x40a else Option.map (fun a => Addr.add a (x43l * 2)) x40a) (x40n - x43l) (x40c - x43l)), (Value.slice v2a v2n v2c)] H2 fun x45v H3 =>
 ∃ x45 : Int, x45v = (Value.int .i64 x45) ∧
 InC (IntKind.wrap .i64 (i1 + (v2n : Int))) x40n fun x50l =>
 InC i1 s0n fun x53l =>
 Zdv Tryd.prog #[Zq, Zq] Zgu [(Value.slice (if x40c = x50l then x40a else Option.map (fun a => Addr.add a (x50l * 2)) x40a) (x40n - x50l) (x40c - x50l)), (Value.slice (if s0c = x53l then s0a else Option.map (fun a => Addr.add a (x53l * 2)) s0a) (s0n - x53l) (s0c - x53l))] H3 fun x54v H4 =>
 ∃ x54 : Int, x54v = (Value.int .i64 x54) ∧
 R (Value.slice x40a x40n x40c) H4)
 (InC (IntKind.wrap .i64 ((s0n : Int) + (v2n : Int))) s0c fun x60h =>
 InC (IntKind.wrap .i64 (i1 + (v2n : Int))) x60h fun x66l =>
 ExtW Tryd.prog Zclz ⟨[(Value.slice v2a v2n v2c), (Value.slice (if s0c = x66l then s0a else Option.map (fun a => Addr.add a (x66l * 2)) s0a) (x60h - x66l) (s0c - x66l))]⟩ H fun x67v H5 =>
 ∃ x67 : Bool, x67v = (Value.bool x67) ∧
 IfB (!x67)
 (InC (IntKind.wrap .i64 (i1 + (v2n : Int))) x60h fun x73l =>
 InC i1 x60h fun x76l =>
 Zdv Tryd.prog #[Zq, Zq] Zgu [(Value.slice (if s0c = x73l then s0a else Option.map (fun a => Addr.add a (x73l * 2)) s0a) (x60h - x73l) (s0c - x73l)), (Value.slice (if s0c = x76l then s0a else Option.map (fun a => Addr.add a (x76l * 2)) s0a) (x60h - x76l) (s0c - x76l))] H5 fun x77v H6 =>
 ∃ x77 : Int, x77v = (Value.int .i64 x77) ∧
 InC i1 x60h fun x80l =>
 Zdv Tryd.prog #[Zq, Zq] Zgu [(Value.slice (if s0c = x80l then s0a else Option.map (fun a => Addr.add a (x80l * 2)) s0a) (x60h - x80l) (s0c - x80l)), (Value.slice v2a v2n v2c)] H6 fun x82v H7 =>
 ∃ x82 : Int, x82v = (Value.int .i64 x82) ∧
 R (Value.slice s0a x60h s0c) H7)
 (InC (s0n : Int) x60h fun x86l =>
 Zdv Tryd.prog #[Zq, Zq] Zgu [(Value.slice (if s0c = x86l then s0a else Option.map (fun a => Addr.add a (x86l * 2)) s0a) (x60h - x86l) (s0c - x86l)), (Value.slice v2a v2n v2c)] H5 fun x88v H8 =>
 ∃ x88 : Int, x88v = (Value.int .i64 x88) ∧
 InC i1 x60h fun x91l =>
 FnW Tryd.prog Zcgw ⟨[(Value.slice (if s0c = x91l then s0a else Option.map (fun a => Addr.add a (x91l * 2)) s0a) (x60h - x91l) (s0c - x91l)), (Value.int .i64 (v2n : Int))]⟩ H8 fun x93v H9 =>
 x93v = (Value.tuple ⟨[]⟩) ∧
 R (Value.slice s0a x60h s0c) H9))))
theorem Zchj (s0a : Option Addr) (s0n : Nat) (s0c : Nat) (i1 : Int) (v2a : Option Addr) (v2n : Nat) (v2c : Nat) (H : Heap) (R : Value -> Heap -> Prop) : Zbcu s0a s0n s0c i1 v2a v2n v2c H R = Za Tryd.prog Zbvh (Zd Tryd.f44) (env0 [(Value.slice s0a s0n s0c), (Value.int .i64 i1), (Value.slice v2a v2n v2c)]) H (RetW Tryd.prog Tryd.f44.results.toList R) := by kernel_rfl
theorem Zcji (s0a : Option Addr) (s0n : Nat) (s0c : Nat) (i1 : Int) (v2a : Option Addr) (v2n : Nat) (v2c : Nat) {H : Heap} {R : Value -> Heap -> Prop} (h : Zbcu s0a s0n s0c i1 v2a v2n v2c H fun v H1 => ∀ H2, Shut H H1 H2 -> R v H2) : FnW Tryd.prog Ztx ⟨[(Value.slice s0a s0n s0c), (Value.int .i64 i1), (Value.slice v2a v2n v2c)]⟩ H R := FnW.of_code Zcpa (by kernel_rfl) (Eq.mp (Zchj s0a s0n s0c i1 v2a v2n v2c H _) h)
def Zbqs : Plan := ⟨[(5, [0, 1, 2, 3, 4, 5, 6, 7, 8, 9, 10, 11, 12, 13, 14, 15, 16], [17])], [(3, [3, 4], [.slice, .int .i64], [0])], [], []⟩
theorem Zcoa : Known Tryd.prog Zhe Tryd.f45 Zbqs (Zd Tryd.f45) := by refine ⟨Tryd.func45, ?_, ?_, ?_, ?_, ?_⟩ <;> kernel_rfl
def Zbbh (p0a : Option Addr) (p0n : Nat) (p0c : Nat) (out3a : Option Addr) (out3n : Nat) (out3c : Nat) (i4 : Int) (H2 : Heap) (next3 : ((Option Addr × Nat × Nat) × Int × Unit) -> Heap -> Prop) (R : Value -> Heap -> Prop) : Prop :=
 IfB (decide ((i4 : Int) < (p0n : Int)))
 (∃ bs : List Nat, (∀ b ∈ bs, ∃ o, H2 b = some o) ∧
 NilP p0a fun x15q =>
 InB i4 p0n fun x15i =>
 elemAt x15q x15i 2 fun x15p =>
 x15p.block ∈ bs ∧ ∃ x17 : Bool, H2.cell x15p = some (Value.bool x17) ∧
 NewW H2 (Obj.cells ⟨[]⟩ Zl) fun x18b H3 =>
 NilP p0a fun x21q =>
 InB i4 p0n fun x21i =>
 elemAt x21q x21i 2 fun x21p =>
 ∃ (x23a : Option Addr) (x23n x23c : Nat), H3.cell ⟨x21p.block, x21p.off + 1, none⟩ = some (Value.slice x23a x23n x23c) ∧
 AppW Tryd.prog #[Zbt, Zbt] Zbt [(Value.slice (some ⟨x18b, 0, none⟩) 0 0), (Value.slice x23a x23n x23c)] H3 fun x24v H4 =>
 ∃ (x24a : Option Addr) (x24n x24c : Nat), x24v = (Value.slice x24a x24n x24c) ∧
 Zil bs H2 H4 ∧ NewW H4 (Obj.cells ⟨[(Value.bool x17), (Value.slice x24a x24n x24c)]⟩ Zh) fun x26b H5 =>
 AppW Tryd.prog #[Zq, Zq] Zq [(Value.slice out3a out3n out3c), (Value.slice (some ⟨x26b, 0, none⟩) 1 1)] H5 fun x27v H6 =>
 ∃ (x27a : Option Addr) (x27n x27c : Nat), x27v = (Value.slice x27a x27n x27c) ∧
 next3 ((x27a, x27n, x27c), ((IntKind.wrap .i64 (i4 + 1)), ())) H6)
 (R (Value.slice out3a out3n out3c) H2)
def Zbce (p0a : Option Addr) (p0n : Nat) (p0c : Nat) (H : Heap) (R : Value -> Heap -> Prop) : Prop :=
 NewW H (Obj.cells ⟨[]⟩ Zh) fun x5b H1 =>
 Zgz ((Option Addr × Nat × Nat) × Int × Unit) (((some ⟨x5b, 0, none⟩), 0, 0), (0, ())) H1 fun x H next => ∀ _g : Env, Zbbh p0a p0n p0c x.1.1 x.1.2.1 x.1.2.2 x.2.1 H next R
theorem Zcre (p0a : Option Addr) (p0n : Nat) (p0c : Nat) (H : Heap) (R : Value -> Heap -> Prop) : Zbce p0a p0n p0c H R = Za Tryd.prog Zbqs (Zd Tryd.f45) (env0 [(Value.slice p0a p0n p0c)]) H (RetW Tryd.prog Tryd.f45.results.toList R) := by kernel_rfl
theorem Zcri (p0a : Option Addr) (p0n : Nat) (p0c : Nat) {H : Heap} {R : Value -> Heap -> Prop} (h : Zbce p0a p0n p0c H fun v H1 => ∀ H2, Shut H H1 H2 -> R v H2) : FnW Tryd.prog Zhe ⟨[(Value.slice p0a p0n p0c)]⟩ H R := FnW.of_code Zcoa (by kernel_rfl) (Eq.mp (Zcre p0a p0n p0c H _) h)
def Zbln : Plan := ⟨[], [], [], []⟩
theorem Zcav : Known Tryd.prog Zbef Tryd.f52 Zbln (Zd Tryd.f52) := by refine ⟨Tryd.func52, ?_, ?_, ?_, ?_, ?_⟩ <;> kernel_rfl
def Zbhk (s0a : Option Addr) (s0n : Nat) (s0c : Nat) (f : FuncId) (w0 : Value) (H : Heap) (R : Value -> Heap -> Prop) : Prop :=
 FnW Tryd.prog Zbbv ⟨[(Value.slice s0a s0n s0c), (Value.func (.func f) #[] #[w0])]⟩ H fun x7v H1 =>
 ∃ x7 : Int, x7v = (Value.int .i64 x7) ∧
 R (Value.bool (decide ((x7 : Int) ≥ 0))) H1
theorem Zcex (s0a : Option Addr) (s0n : Nat) (s0c : Nat) (f : FuncId) (w0 : Value) (H : Heap) (R : Value -> Heap -> Prop) : Zbhk s0a s0n s0c f w0 H R = Za Tryd.prog Zbln (Zd Tryd.f52) (env0 [(Value.slice s0a s0n s0c), (Value.func (.func f) #[] #[w0])]) H (RetW Tryd.prog Tryd.f52.results.toList R) := by kernel_rfl
theorem Zcrr (s0a : Option Addr) (s0n : Nat) (s0c : Nat) (f : FuncId) (w0 : Value) {H : Heap} {R : Value -> Heap -> Prop} (h : Zbhk s0a s0n s0c f w0 H fun v H1 => ∀ H2, Shut H H1 H2 -> R v H2) : FnW Tryd.prog Zbef ⟨[(Value.slice s0a s0n s0c), (Value.func (.func f) #[] #[w0])]⟩ H R := FnW.of_code Zcav (by kernel_rfl) (Eq.mp (Zcex s0a s0n s0c f w0 H _) h)
def Zbrv : Plan := ⟨[], [], [], []⟩
theorem Zckk : Known Tryd.prog Zkj Tryd.f53 Zbrv (Zd Tryd.f53) := by refine ⟨Tryd.func53, ?_, ?_, ?_, ?_, ?_⟩ <;> kernel_rfl
def Zbbi (s0c0 : Bool) (s0c1a : Option Addr) (s0c1n : Nat) (s0c1c : Nat) (b1 : Nat) (H : Heap) (R : Value -> Heap -> Prop) : Prop :=
 NewW H (Obj.cells ⟨[(Value.bool s0c0), (Value.slice s0c1a s0c1n s0c1c)]⟩ Zh) fun s2b H1 =>
 ∃ (x5a : Option Addr) (x5n x5c : Nat), H1.cell ⟨s2b, 1, none⟩ = some (Value.slice x5a x5n x5c) ∧
 ∃ x6 : Int, H1.cell ⟨b1, 0, none⟩ = some (Value.int .u32 x6) ∧
 FnW Tryd.prog Zlz ⟨[(Value.slice x5a x5n x5c), (Value.int .u32 x6)]⟩ H1 fun x7v H2 =>
 ∃ x7 : Bool, x7v = (Value.bool x7) ∧
 R (Value.bool x7) H2
theorem Zcth (s0c0 : Bool) (s0c1a : Option Addr) (s0c1n : Nat) (s0c1c : Nat) (b1 : Nat) (H : Heap) (R : Value -> Heap -> Prop) : Zbbi s0c0 s0c1a s0c1n s0c1c b1 H R = Za Tryd.prog Zbrv (Zd Tryd.f53) (env0 [(Value.agg ⟨[(Value.bool s0c0), (Value.slice s0c1a s0c1n s0c1c)]⟩), (Value.pointer (some ⟨b1, 0, none⟩))]) H (RetW Tryd.prog Tryd.f53.results.toList R) := by kernel_rfl
theorem Zcia (s0c0 : Bool) (s0c1a : Option Addr) (s0c1n : Nat) (s0c1c : Nat) (b1 : Nat) {H : Heap} {R : Value -> Heap -> Prop} (h : Zbbi s0c0 s0c1a s0c1n s0c1c b1 H fun v H1 => ∀ H2, Shut H H1 H2 -> R v H2) : FnW Tryd.prog Zkj ⟨[(Value.agg ⟨[(Value.bool s0c0), (Value.slice s0c1a s0c1n s0c1c)]⟩), (Value.pointer (some ⟨b1, 0, none⟩))]⟩ H R := FnW.of_code Zckk (by kernel_rfl) (Eq.mp (Zcth s0c0 s0c1a s0c1n s0c1c b1 H _) h)
def Zbuf : Plan := ⟨[], [], [], []⟩
theorem Zcad : Known Tryd.prog Zbdz Tryd.f55 Zbuf (Zd Tryd.f55) := by refine ⟨Tryd.func55, ?_, ?_, ?_, ?_, ?_⟩ <;> kernel_rfl
def Zbhi (i0 : Int) (base1 : Int) (H : Heap) (R : Value -> Heap -> Prop) : Prop :=
 IfB ((base1 : Int) == 10)
 (IfB (decide ((i0 : Int) < 100))
 (FnW Tryd.prog Zbyg ⟨[(Value.int .i64 (IntKind.wrap .i64 i0))]⟩ H fun x15v H1 =>
 ∃ x15 : ByteArray, x15v = (Value.string x15) ∧
 R (Value.string x15) H1)
 (NewW H (Obj.cells ⟨[(Value.int .u8 0), (Value.int .u8 0), (Value.int .u8 0), (Value.int .u8 0), (Value.int .u8 0), (Value.int .u8 0), (Value.int .u8 0), (Value.int .u8 0), (Value.int .u8 0), (Value.int .u8 0), (Value.int .u8 0), (Value.int .u8 0), (Value.int .u8 0), (Value.int .u8 0), (Value.int .u8 0), (Value.int .u8 0), (Value.int .u8 0), (Value.int .u8 0), (Value.int .u8 0), (Value.int .u8 0), (Value.int .u8 0), (Value.int .u8 0), (Value.int .u8 0), (Value.int .u8 0)]⟩ Zln) fun a5b H2 =>
 FnW Tryd.prog Zbsk ⟨[(Value.int .u64 i0)]⟩ H2 fun x17v H3 =>
 ∃ x17 : Int, x17v = (Value.int .i64 x17) ∧
 InC x17 24 fun x19h =>
 FnW Tryd.prog Zbnd ⟨[(Value.slice (some ⟨a5b, 0, none⟩) x19h 24), (Value.int .u64 i0)]⟩ H3 fun x21v H4 =>
 x21v = (Value.tuple ⟨[]⟩) ∧
 InC x17 24 fun x23h =>
 SemW Tryd.prog (convert Zcqe Zjq (Value.slice (some ⟨a5b, 0, none⟩) x23h 24)) H4 fun x24v H5 =>
 ∃ x24 : ByteArray, x24v = (Value.string x24) ∧
 R (Value.string x24) H5))
 (FnW Tryd.prog Zcrd ⟨[(Value.slice none 0 0), (Value.int .u64 i0), (Value.int .i64 base1), (Value.bool false), (Value.bool false)]⟩ H fun x28v H6 =>
 ∃ (x28r0a : Option Addr) (x28r0n x28r0c : Nat), ∃ x28r1 : ByteArray, x28v = (Value.tuple ⟨[(Value.slice x28r0a x28r0n x28r0c), (Value.string x28r1)]⟩) ∧
 R (Value.string x28r1) H6)
theorem Zcio (i0 : Int) (base1 : Int) (H : Heap) (R : Value -> Heap -> Prop) : Zbhi i0 base1 H R = Za Tryd.prog Zbuf (Zd Tryd.f55) (env0 [(Value.int .u64 i0), (Value.int .i64 base1)]) H (RetW Tryd.prog Tryd.f55.results.toList R) := by kernel_rfl
theorem Zcgb (i0 : Int) (base1 : Int) {H : Heap} {R : Value -> Heap -> Prop} (h : Zbhi i0 base1 H fun v H1 => ∀ H2, Shut H H1 H2 -> R v H2) : FnW Tryd.prog Zbdz ⟨[(Value.int .u64 i0), (Value.int .i64 base1)]⟩ H R := FnW.of_code Zcad (by kernel_rfl) (Eq.mp (Zcio i0 base1 H _) h)
def Zbzm : Plan := ⟨[], [], [], []⟩
theorem Zcly : Known Tryd.prog Zbgo Tryd.f59 Zbzm (Zd Tryd.f59) := by refine ⟨Tryd.func59, ?_, ?_, ?_, ?_, ?_⟩ <;> kernel_rfl
def Zblc (s0 : ByteArray) (sep1 : ByteArray) (sepSave2 : Int) (H : Heap) (R : Value -> Heap -> Prop) : Prop :=
 NewW H (Obj.cells ⟨[(Value.string s0)]⟩ Zjq) fun s3b H1 =>
 NewW H1 (Obj.cells ⟨[(Value.string sep1)]⟩ Zjq) fun sep4b H2 =>
 NewW H2 (Obj.cells ⟨[(Value.int .i64 sepSave2)]⟩ Zgu) fun sepSave5b H3 =>
 R (Value.func (.func Zid) #[] #[(Value.pointer (some ⟨sep4b, 0, none⟩)), (Value.pointer (some ⟨s3b, 0, none⟩)), (Value.pointer (some ⟨sepSave5b, 0, none⟩))]) H3
theorem Zcoh (s0 : ByteArray) (sep1 : ByteArray) (sepSave2 : Int) (H : Heap) (R : Value -> Heap -> Prop) : Zblc s0 sep1 sepSave2 H R = Za Tryd.prog Zbzm (Zd Tryd.f59) (env0 [(Value.string s0), (Value.string sep1), (Value.int .i64 sepSave2)]) H (RetW Tryd.prog Tryd.f59.results.toList R) := by kernel_rfl
theorem Zchs (s0 : ByteArray) (sep1 : ByteArray) (sepSave2 : Int) {H : Heap} {R : Value -> Heap -> Prop} (h : Zblc s0 sep1 sepSave2 H fun v H1 => ∀ H2, Shut H H1 H2 -> R v H2) : FnW Tryd.prog Zbgo ⟨[(Value.string s0), (Value.string sep1), (Value.int .i64 sepSave2)]⟩ H R := FnW.of_code Zcly (by kernel_rfl) (Eq.mp (Zcoh s0 sep1 sepSave2 H _) h)
def Zbqv : Plan := ⟨[], [], [], []⟩
theorem Zcvk : Known Tryd.prog Zjr Tryd.f63 Zbqv (Zd Tryd.f63) := by refine ⟨Tryd.func63, ?_, ?_, ?_, ?_, ?_⟩ <;> kernel_rfl
def Zbcr (s0a : Option Addr) (s0n : Nat) (s0c : Nat) (H : Heap) (R : Value -> Heap -> Prop) : Prop :=
 IfB s0a.isNone
 (R (Value.slice none 0 0) H)
 (NewW H (Obj.cells ⟨[]⟩ Zl) fun x5b H1 =>
 AppW Tryd.prog #[Zbt, Zbt] Zbt [(Value.slice (some ⟨x5b, 0, none⟩) 0 0), (Value.slice s0a s0n s0c)] H1 fun x7v H2 =>
 ∃ (x7a : Option Addr) (x7n x7c : Nat), x7v = (Value.slice x7a x7n x7c) ∧
 R (Value.slice x7a x7n x7c) H2)
theorem Zciu (s0a : Option Addr) (s0n : Nat) (s0c : Nat) (H : Heap) (R : Value -> Heap -> Prop) : Zbcr s0a s0n s0c H R = Za Tryd.prog Zbqv (Zd Tryd.f63) (env0 [(Value.slice s0a s0n s0c)]) H (RetW Tryd.prog Tryd.f63.results.toList R) := by kernel_rfl
theorem Zcfu (s0a : Option Addr) (s0n : Nat) (s0c : Nat) {H : Heap} {R : Value -> Heap -> Prop} (h : Zbcr s0a s0n s0c H fun v H1 => ∀ H2, Shut H H1 H2 -> R v H2) : FnW Tryd.prog Zjr ⟨[(Value.slice s0a s0n s0c)]⟩ H R := FnW.of_code Zcvk (by kernel_rfl) (Eq.mp (Zciu s0a s0n s0c H _) h)
def Zbuw : Plan := ⟨[], [(1, [4], [.int .i64], [0, 1, 2])], [], []⟩
theorem Zcca : Known Tryd.prog Zpj Tryd.f68 Zbuw (Zd Tryd.f68) := by refine ⟨Tryd.func68, ?_, ?_, ?_, ?_, ?_⟩ <;> kernel_rfl
def Zbwm (l : Nat) (b1 : Nat) (b2 : Nat) (i4 : Int) (H1 : Heap) (next1 : (Int × Unit) -> Heap -> Prop) (R : Value -> Heap -> Prop) : Prop :=
 ∃ (x7a : Option Addr) (x7n x7c : Nat), H1.cell ⟨b1, 0, none⟩ = some (Value.slice x7a x7n x7c) ∧
 IfB (decide ((i4 : Int) < (x7n : Int)))
 (∃ x13 : Int, H1.cell ⟨b2, 0, none⟩ = some (Value.int .i64 x13) ∧
 ∃ (x14a : Option Addr) (x14n x14c : Nat), H1.cell ⟨b1, 0, none⟩ = some (Value.slice x14a x14n x14c) ∧
 InC i4 x14n fun x16l =>
 ∃ (x20a : Option Addr) (x20n x20c : Nat), H1.cell ⟨b1, 0, none⟩ = some (Value.slice x20a x20n x20c) ∧
 InC (IntKind.wrap .i64 (i4 + (min x13 ((x14n - x16l : Nat) : Int)))) x20c fun x28m =>
 InC (IntKind.wrap .i64 (i4 + (min x13 ((x14n - x16l : Nat) : Int)))) x28m fun x28h =>
 InC i4 x28h fun x28l =>
 Zej Tryd.prog l [(Value.slice (if x28m = x28l then x20a else Option.map (fun a => Addr.add a (x28l * 1)) x20a) (x28h - x28l) (x28m - x28l))] H1 fun x29v H2 =>
 ∃ x29 : Bool, x29v = (Value.bool x29) ∧
 IfB (!x29)
 (R (Value.tuple ⟨[]⟩) H2)
 (∃ x11 : Int, H2.cell ⟨b2, 0, none⟩ = some (Value.int .i64 x11) ∧
 next1 ((IntKind.wrap .i64 (i4 + x11)), ()) H2))
 (R (Value.tuple ⟨[]⟩) H1)
def Zbhd (l : Nat) (b1 : Nat) (b2 : Nat) (H : Heap) (R : Value -> Heap -> Prop) : Prop :=
 Zgz (Int × Unit) (0, ()) H fun x H next => ∀ _g : Env, Zbwm l b1 b2 x.1 H next R
theorem Zcdt (l : Nat) (b1 : Nat) (b2 : Nat) (H : Heap) (R : Value -> Heap -> Prop) : Zbhd l b1 b2 H R = Za Tryd.prog Zbuw (Zd Tryd.f68) (env0 [(Value.func (.yield l) #[] #[]), (Value.pointer (some ⟨b1, 0, none⟩)), (Value.pointer (some ⟨b2, 0, none⟩))]) H (RetW Tryd.prog Tryd.f68.results.toList R) := by kernel_rfl
theorem Zcbk (l : Nat) (b1 : Nat) (b2 : Nat) {H : Heap} {R : Value -> Heap -> Prop} (h : Zbhd l b1 b2 H fun v H1 => ∀ H2, Shut H H1 H2 -> R v H2) : FnW Tryd.prog Zpj ⟨[(Value.func (.yield l) #[] #[]), (Value.pointer (some ⟨b1, 0, none⟩)), (Value.pointer (some ⟨b2, 0, none⟩))]⟩ H R := FnW.of_code Zcca (by kernel_rfl) (Eq.mp (Zcdt l b1 b2 H _) h)
def Zbvf : Plan := ⟨[], [(2, [8], [.int .i64], [0, 1, 7])], [], []⟩
theorem Zcpi : Known Tryd.prog Zbbv Tryd.f69 Zbvf (Zd Tryd.f69) := by refine ⟨Tryd.func69, ?_, ?_, ?_, ?_, ?_⟩ <;> kernel_rfl
def Zbhw (s0a : Option Addr) (s0n : Nat) (s0c : Nat) (f : FuncId) (w0 : Value) (x8 : Int) (H1 : Heap) (next2 : (Int × Unit) -> Heap -> Prop) (R : Value -> Heap -> Prop) : Prop :=
 IfB (decide ((x8 : Int) < (s0n : Int)))
 (NilP s0a fun x14q =>
 InB x8 s0n fun x14i =>
 elemAt x14q x14i 2 fun x14p =>
 ∃ x15c0 : Bool, H1.cell x14p = some (Value.bool x15c0) ∧ ∃ (x15c1a : Option Addr) (x15c1n x15c1c : Nat), H1.cell ⟨x14p.block, x14p.off + 1, none⟩ = some (Value.slice x15c1a x15c1n x15c1c) ∧ FnW Tryd.prog f ⟨[(Value.agg ⟨[(Value.bool x15c0), (Value.slice x15c1a x15c1n x15c1c)]⟩), w0]⟩ H1 fun x16v H2 =>
 ∃ x16 : Bool, x16v = (Value.bool x16) ∧
 IfB x16
 (R (Value.int .i64 x8) H2)
 (next2 ((IntKind.wrap .i64 (x8 + 1)), ()) H2))
 (R (Value.int .i64 (-1)) H1)
def Zbdy (s0a : Option Addr) (s0n : Nat) (s0c : Nat) (f : FuncId) (w0 : Value) (H : Heap) (R : Value -> Heap -> Prop) : Prop :=
 Zgz (Int × Unit) (0, ()) H fun x H next => ∀ _g : Env, Zbhw s0a s0n s0c f w0 x.1 H next R
theorem Zcmy (s0a : Option Addr) (s0n : Nat) (s0c : Nat) (f : FuncId) (w0 : Value) (H : Heap) (R : Value -> Heap -> Prop) : Zbdy s0a s0n s0c f w0 H R = Za Tryd.prog Zbvf (Zd Tryd.f69) (env0 [(Value.slice s0a s0n s0c), (Value.func (.func f) #[] #[w0])]) H (RetW Tryd.prog Tryd.f69.results.toList R) := by kernel_rfl
theorem Zcgr (s0a : Option Addr) (s0n : Nat) (s0c : Nat) (f : FuncId) (w0 : Value) {H : Heap} {R : Value -> Heap -> Prop} (h : Zbdy s0a s0n s0c f w0 H fun v H1 => ∀ H2, Shut H H1 H2 -> R v H2) : FnW Tryd.prog Zbbv ⟨[(Value.slice s0a s0n s0c), (Value.func (.func f) #[] #[w0])]⟩ H R := FnW.of_code Zcpi (by kernel_rfl) (Eq.mp (Zcmy s0a s0n s0c f w0 H _) h)
def Zbvt : Plan := ⟨[], [(1, [], [], [0, 2]), (5, [], [], [0, 1, 2, 3])], [], []⟩
theorem Zcgq : Known Tryd.prog Zid Tryd.f77 Zbvt (Zd Tryd.f77) := by refine ⟨Tryd.func77, ?_, ?_, ?_, ?_, ?_⟩ <;> kernel_rfl
def Zcvo (l : Nat) (b2 : Nat) (H1 : Heap) (next1 : (Unit) -> Heap -> Prop) (R : Value -> Heap -> Prop) : Prop :=
 ∃ x12 : ByteArray, H1.cell ⟨b2, 0, none⟩ = some (Value.string x12) ∧
 IfB (decide (((x12.size : Int) : Int) > 0))
 (∃ x16 : ByteArray, H1.cell ⟨b2, 0, none⟩ = some (Value.string x16) ∧
 FnW Tryd.prog Zcoc ⟨[(Value.string x16)]⟩ H1 fun x17v H2 =>
 ∃ x17r0 : Int, ∃ x17r1 : Int, x17v = (Value.tuple ⟨[(Value.int .i32 x17r0), (Value.int .i64 x17r1)]⟩) ∧
 ∃ x21 : ByteArray, H2.cell ⟨b2, 0, none⟩ = some (Value.string x21) ∧
 InC x17r1 x21.size fun x23h =>
 Zej Tryd.prog l [(Value.string (ByteArray.extract x21 0 x23h))] H2 fun x24v H3 =>
 ∃ x24 : Bool, x24v = (Value.bool x24) ∧
 IfB (!x24)
 (R (Value.tuple ⟨[]⟩) H3)
 (∃ x26 : ByteArray, H3.cell ⟨b2, 0, none⟩ = some (Value.string x26) ∧
 InC x17r1 x26.size fun x28l =>
 Zt H3 ⟨b2, 0, none⟩ (Value.string (ByteArray.extract x26 x28l x26.size)) fun H4 =>
 next1 () H4))
 (R (Value.tuple ⟨[]⟩) H1)
def Zbqu (l : Nat) (b1 : Nat) (b2 : Nat) (b3 : Nat) (H5 : Heap) (next5 : (Unit) -> Heap -> Prop) (R : Value -> Heap -> Prop) : Prop :=
 ∃ x29 : ByteArray, H5.cell ⟨b2, 0, none⟩ = some (Value.string x29) ∧
 ∃ x30 : ByteArray, H5.cell ⟨b1, 0, none⟩ = some (Value.string x30) ∧
 FnW Tryd.prog Zblz ⟨[(Value.string x29), (Value.string x30)]⟩ H5 fun x31v H6 =>
 ∃ x31 : Int, x31v = (Value.int .i64 x31) ∧
 IfB (decide ((x31 : Int) < 0))
 (∃ x50 : ByteArray, H6.cell ⟨b2, 0, none⟩ = some (Value.string x50) ∧
 Zej Tryd.prog l [(Value.string x50)] H6 fun x51v H7 =>
 ∃ x51 : Bool, x51v = (Value.bool x51) ∧
 R (Value.tuple ⟨[]⟩) H7)
 (∃ x34 : ByteArray, H6.cell ⟨b2, 0, none⟩ = some (Value.string x34) ∧
 ∃ x36 : Int, H6.cell ⟨b3, 0, none⟩ = some (Value.int .i64 x36) ∧
 InC (IntKind.wrap .i64 (x31 + x36)) x34.size fun x38h =>
 Zej Tryd.prog l [(Value.string (ByteArray.extract x34 0 x38h))] H6 fun x41v H8 =>
 ∃ x41 : Bool, x41v = (Value.bool x41) ∧
 IfB (!x41)
 (R (Value.tuple ⟨[]⟩) H8)
 (∃ x43 : ByteArray, H8.cell ⟨b2, 0, none⟩ = some (Value.string x43) ∧
 ∃ x45 : ByteArray, H8.cell ⟨b1, 0, none⟩ = some (Value.string x45) ∧
 InC (IntKind.wrap .i64 (x31 + (x45.size : Int))) x43.size fun x48l =>
 Zt H8 ⟨b2, 0, none⟩ (Value.string (ByteArray.extract x43 x48l x43.size)) fun H9 =>
 next5 () H9))
def Zbcg (l : Nat) (b1 : Nat) (b2 : Nat) (b3 : Nat) (H : Heap) (R : Value -> Heap -> Prop) : Prop :=
 ∃ x9 : ByteArray, H.cell ⟨b1, 0, none⟩ = some (Value.string x9) ∧
 IfB (((x9.size : Int) : Int) == 0)
 (Zgz (Unit) () H fun x H next => ∀ _g : Env, Zcvo l b2 H next R)
 (Zgz (Unit) () H fun x H next => ∀ _g : Env, Zbqu l b1 b2 b3 H next R)
theorem Zcqf (l : Nat) (b1 : Nat) (b2 : Nat) (b3 : Nat) (H : Heap) (R : Value -> Heap -> Prop) : Zbcg l b1 b2 b3 H R = Za Tryd.prog Zbvt (Zd Tryd.f77) (env0 [(Value.func (.yield l) #[] #[]), (Value.pointer (some ⟨b1, 0, none⟩)), (Value.pointer (some ⟨b2, 0, none⟩)), (Value.pointer (some ⟨b3, 0, none⟩))]) H (RetW Tryd.prog Tryd.f77.results.toList R) := by kernel_rfl
theorem Zcll (l : Nat) (b1 : Nat) (b2 : Nat) (b3 : Nat) {H : Heap} {R : Value -> Heap -> Prop} (h : Zbcg l b1 b2 b3 H fun v H1 => ∀ H2, Shut H H1 H2 -> R v H2) : FnW Tryd.prog Zid ⟨[(Value.func (.yield l) #[] #[]), (Value.pointer (some ⟨b1, 0, none⟩)), (Value.pointer (some ⟨b2, 0, none⟩)), (Value.pointer (some ⟨b3, 0, none⟩))]⟩ H R := FnW.of_code Zcgq (by kernel_rfl) (Eq.mp (Zcqf l b1 b2 b3 H _) h)
end Go.Proofs.YtflfamhboalgiaaDoor
end
section
namespace Go.Proofs.YtflfamhboalgiaaDoor
open Go.Sh
def Zts : Array Value := (Lib.pow10Tab.map fun z => Value.int .u64 z).toArray
def isErr (L : Nat -> Option Obj) (b : Nat) : Prop := ∃ te pe T fr, L b = some (.cells #[.iface te pe] T fr)
instance : Laid where
  blocks := fun b => Nat.beq b Zix || (Nat.beq b Zno || (Nat.beq b Zod || Nat.beq b Zng))
  ok := fun L => (∃ T fr, L Zix = some (.cells Zts T fr)) ∧ (∃ m cs T fr, L Zno = some (.cells cs T fr) ∧ cs[0]? = some (.int .i64 m)) ∧ isErr L Zod ∧ isErr L Zng
theorem Zbky {W : World} {b : Nat} (h : ∃ te pe T fr, W.heap[b]? = some (.cells #[.iface te pe] T fr)) : ∃ te pe, W.cell? ⟨b, 0, none⟩ = some (.iface te pe) := by obtain ⟨te, pe, T, fr, h⟩ := h; refine ⟨te, pe, ?_⟩; simp only [World.cell?, h, Option.isSome_none, Bool.false_eq_true, if_false]; rfl
theorem Zcbu {W : World} (h : Laid.ok (layH (hp W))) : ∃ te pe, W.cell? ⟨Zod, 0, none⟩ = some (.iface te pe) := Zbky h.2.2.1
theorem Zcqj {W : World} (h : Laid.ok (layH (hp W))) : ∃ te pe, W.cell? ⟨Zng, 0, none⟩ = some (.iface te pe) := Zbky h.2.2.2
theorem rest_of {W W' : World} (h1 : W'.os = W.os) (h2 : W'.tape = W.tape) (h3 : W'.output = W.output) (h : ∀ (b : Nat) o, W.heap[b]? = some o -> W'.heap[b]? = some o) : Go.Sh.Rest W W' := by
  refine ⟨h1, h2, h3, fun b ds hb => h b _ hb, ?_⟩; cases hs : W.heap.size with
  | zero => omega
  | succ n =>
    have := h n _ (Array.getElem?_eq_getElem (by omega))
    have := (Array.getElem?_eq_some_iff.1 this).1; omega
end Go.Proofs.YtflfamhboalgiaaDoor
end
section
set_option maxRecDepth 100000
namespace Go.Proofs.YtflfamhboalgiaaDoor
open Go.Sh
abbrev Zbz : Kd := .lst [.bool, .lst [.int .u32]]
abbrev kU32 : Kd := .lst [.int .u32]
abbrev Zbl : List Kd := [.bool, .lst [.int .u32]]
structure Lyd (H : Heap) : Prop where
  live : ∀ b, Laid.blocks b = true -> H b ≠ none
  ok : Laid.ok (layH H)
theorem Lyd.keep {H H' : Heap} (h : Lyd H) (k : Keep Nil H H') : Lyd H' := by
  refine ⟨fun b hb => k.live b (h.live b hb), ?_⟩; have e : layH H' = layH H := by
    funext b; unfold layH; cases hb : Laid.blocks b with
    | true => exact k.same b (fun h => h.elim) (h.live b hb)
    | false => rfl
  rw [e]; exact h.ok
theorem Zkl {S : Nat -> Prop} {H0 H H' : Heap} (h : Keep Nil H0 H) (k : Keep S H H') (hs : ∀ x, S x -> H0 x = none) : Keep Nil H0 H' := h.then k fun b hb => .inr (hs b hb)
theorem Zfb {S : Nat -> Prop} {H0 H H' : Heap} {a : Option Addr} {n cap sz : Nat} {T : TypeId} {xs : List Value} (h : Sh.Own H0 H a n cap sz T xs) (k : Keep S H H') (hs : ∀ x, S x -> a ≠ some ⟨x, 0, none⟩) : Sh.Own H0 H' a n cap sz T xs :=
  h.keep k fun b hb hx => hs b hx hb
theorem newB {H : Heap} {l : List Value} {T : TypeId} {k : Nat -> Heap -> Prop} (h : ∀ n H1, H n = none -> Keep Nil H H1 -> Blk H1 n T ⟨l⟩ -> k n H1) : NewW H (Obj.cells ⟨l⟩ T) k := NewW.intro fun n hn => h n _ hn ((Keep.refl _ _).new hn) Blk.upd_eq
theorem Zbx {H : Heap} {b : Nat} {T : TypeId} {l : List Value} (h : Blk H b T ⟨l⟩) (j : Nat) {v : Value} (e : l[j]? = some v) : H.cell ⟨b, j, none⟩ = some v := by rw [h.cell]; simpa using e
theorem Zgd {H H' : Heap} {m : Nat} {T : TypeId} {c : List Value} (hb : Blk H' m T ⟨c⟩) (ho : ∀ x, x ≠ m -> H' x = H x) : Keep (fun x => x = m) H H' := ⟨fun x hx _ => ho x hx, fun x hx => by
  by_cases e : x = m; subst e; exact hb.some
  . rw [ho x e]; exact hx⟩
theorem Zhd {H : Heap} {m : Nat} {T T' : TypeId} {c c' : Array Value} (h : Blk H m T c) (h' : Blk H m T' c') : T = T' := by unfold Blk at h h'; rw [h] at h'; simp only [Option.some.injEq, Obj.cells.injEq] at h'; exact h'.2.1
theorem Zbti (n : UInt32) : InR .u32 (n.toNat : Int) := ⟨by simp [loI], by have := UInt32.toNat_lt n; simp only [hiI]; omega⟩
theorem row_of {T : TypeId} {s b : Nat} (h : (Tryd.prog.info? T).map (fun i => (i.size, i.bytes)) = some (s, b)) : ∃ it, Tryd.prog.info? T = some it ∧ it.size = s ∧ it.bytes = b := by
  cases hi : Tryd.prog.info? T with
  | none => rw [hi] at h; cases h
  | some i => rw [hi] at h; simp only [Option.map_some, Option.some.injEq, Prod.mk.injEq] at h; exact ⟨i, rfl, h.1, h.2⟩
theorem Zsy : ∃ it, Tryd.prog.info? Zl = some it ∧ it.size = 1 ∧ it.bytes = 4 := row_of (by kernel_rfl)
theorem Zbij : ∃ it, Tryd.prog.info? Zh = some it ∧ it.size = 2 ∧ it.bytes = 32 := row_of (by kernel_rfl)
theorem Zkd {H0 H : Heap} {a : Option Addr} {n cap : Nat} {T : TypeId} {xs : List Value} {ks : List Kd} {l : List (Tp ks)} {Z : Nat -> Prop} (ho : Sh.Own H0 H a n cap ks.length T xs) (hl : l.length = n) (hc : ∀ i r, l[i]? = some r -> Zc Z H ks r (fun j => xs[i * ks.length + j]?)) (hcap : cap <= Zi) (hz : ∀ m, a = some ⟨m, 0, none⟩ -> Z m) : Zb Z H (.lst ks) l (.slice a n cap) := by
  simp only [Zb]; refine ⟨a, n, cap, rfl, hl, ho.le, hcap, fun h0 => ?_⟩; obtain ⟨m, rfl⟩ := ho.addr h0; obtain ⟨rest, hb, _⟩ := ho.blk rfl; refine ⟨m, 0, rfl, hz m rfl, _, _, _, hb, fun i x hx => ?_⟩; have hxl := ho.len; have hi : i < n := by rcases Nat.lt_or_ge i l.length with h | h; omega; have hx' : l[i]? = some x := hx; rw [List.getElem?_eq_none h] at hx'; cases hx'
  refine Zc.congr (fun j hj => ?_) (hc i x hx); simp only [Nat.zero_add, List.getElem?_toArray]; rw [List.getElem?_append_left]; have : (i + 1) * ks.length <= n * ks.length := Nat.mul_le_mul_right _ hi; rw [Nat.succ_mul] at this; omega
def NewZ (H H' : Heap) (Z : Nat -> Prop) (Ts : List TypeId) : Prop := ∀ m, Z m -> H m = none ∧ ∃ T c, Blk H' m T c ∧ T ∈ Ts
theorem NewZ.fresh {H H' : Heap} {Z : Nat -> Prop} {Ts : List TypeId} (h : NewZ H H' Z Ts) : Zjt H H' Z := fun m hm => by obtain ⟨h1, T, c, h2, _⟩ := h m hm; refine ⟨h1, h2.some, fun ds e => ?_⟩; unfold Blk at h2; rw [h2] at e; cases e
theorem NewZ.live {H H' : Heap} {Z : Nat -> Prop} {Ts : List TypeId} (h : NewZ H H' Z Ts) : ∀ m, Z m -> H' m ≠ none := fun m hm => (h.fresh m hm).2.1
theorem NewZ.keep {H H' H'' : Heap} {Z S : Nat -> Prop} {Ts : List TypeId} (h : NewZ H H' Z Ts) (k : Keep S H' H'') (hs : ∀ m, Z m -> ¬ S m) : NewZ H H'' Z Ts := fun m hm => by obtain ⟨h1, T, c, h2, h3⟩ := h m hm; exact ⟨h1, T, c, k.blk h2 (hs m hm), h3⟩
theorem NewZ.shut {H H' H'' H0 : Heap} {Z : Nat -> Prop} {Ts : List TypeId} (h : NewZ H H' Z Ts) (k : Shut H0 H' H'') : NewZ H H'' Z Ts := fun m hm => by obtain ⟨h1, T, c, h2, h3⟩ := h m hm; exact ⟨h1, T, c, Zgt h2 k, h3⟩
theorem NewZ.early {S : Nat -> Prop} {H0 H H' : Heap} {Z : Nat -> Prop} {Ts : List TypeId} (h : NewZ H H' Z Ts) (k : Keep S H0 H) : NewZ H0 H' Z Ts := fun m hm => by obtain ⟨h1, h2⟩ := h m hm; exact ⟨k.free h1, h2⟩
theorem NewZ.mono {H H' : Heap} {Z : Nat -> Prop} {Ts Ts' : List TypeId} (h : NewZ H H' Z Ts) (ht : ∀ T ∈ Ts, T ∈ Ts') : NewZ H H' Z Ts' := fun m hm => by obtain ⟨h1, T, c, h2, h3⟩ := h m hm; exact ⟨h1, T, c, h2, ht T h3⟩
theorem NewZ.both {H H' : Heap} {Z Z' : Nat -> Prop} {Ts : List TypeId} (h : NewZ H H' Z Ts) (h' : NewZ H H' Z' Ts) : NewZ H H' (fun m => Z m ∨ Z' m) Ts := fun m hm => hm.elim (h m) (h' m)
theorem NewZ.own {H H' : Heap} {a : Option Addr} {n cap sz : Nat} {T : TypeId} {xs : List Value} (h : Sh.Own H H' a n cap sz T xs) : NewZ H H' (fun m => a = some ⟨m, 0, none⟩) [T] := fun m hm => by obtain ⟨c, hc⟩ := h.live hm; exact ⟨h.free hm, T, c, hc, List.mem_singleton_self _⟩
theorem NewZ.none {H H' : Heap} {Ts : List TypeId} : NewZ H H' (fun _ => False) Ts := fun _ h => h.elim
theorem scal {k : IntKind} {Z Z' : Nat -> Prop} {H H' : Heap} {r : Tp [.int k]} {f : Nat -> Option Value} (h : Zc Z H [.int k] r f) : Zc Z' H' [.int k] r f := by simp only [Zc, Zb] at h ⊢; exact h
theorem Zjh {Z : Nat -> Prop} {H : Heap} {ks : List Kd} {xs : List (Tp ks)} {a : Option Addr} {n c : Nat} (h : Zb Z H (.lst ks) xs (.slice a n c)) : n = xs.length ∧ n <= c ∧ c <= Zi := by simp only [Zb] at h; obtain ⟨a', n', c', e, h1, h2, h3, _⟩ := h; cases e; exact ⟨h1.symm, h2, h3⟩
theorem Zhq {Z : Nat -> Prop} {H : Heap} {ks : List Kd} {xs : El (.lst ks)} {v : Value} (h : Zb Z H (.lst ks) xs v) : ∃ a n c, v = .slice a n c := by simp only [Zb] at h; obtain ⟨a, n, c, rfl, _⟩ := h; exact ⟨a, n, c, rfl⟩
theorem Zcht {Z : Nat -> Prop} {H : Heap} {k1 k2 : Kd} {xs : List (Tp [k1, k2])} {a : Option Addr} {n c : Nat} (h : Zb Z H (.lst [k1, k2]) xs (.slice a n c)) {i : Nat} {x : Tp [k1, k2]} (hx : xs[i]? = some x) :
    ∃ b o v w, a = some ⟨b, o, none⟩ ∧ Z b ∧ H.cell ⟨b, o + i * 2, none⟩ = some v ∧ Zb Z H k1 (hdT [k2] x) v ∧ H.cell ⟨b, o + i * 2 + 1, none⟩ = some w ∧ Zb Z H k2 (hdT [] (tlT [k2] x)) w := by
  have hi : i < xs.length := (List.getElem?_eq_some_iff.1 hx).1; obtain ⟨rfl, _, _⟩ := Zjh h; simp only [Zb] at h; obtain ⟨a', n', c', e, _, _, _, h5⟩ := h; cases e; obtain ⟨b, o, rfl, hz, cs, T, fr, hb, hc⟩ := h5 (by omega)
  have := hc i x hx; simp only [Zc, and_true] at this; obtain ⟨⟨v, h1, h2⟩, w, h3, h4⟩ := this; refine ⟨b, o, v, w, rfl, hz, ?_, h2, ?_, h4⟩; simp only [Heap.cell, hb]; exact h1; simp only [Heap.cell, hb]; exact h3
theorem Zns {Z : Nat -> Prop} {H : Heap} {p : List Seg} {a : Option Addr} {n c : Nat} (h : Zb Z H Zbz p (.slice a n c)) {i : Nat} {x : Seg} (hx : p[i]? = some x) :
    ∃ b o sa sn sc, a = some ⟨b, o, none⟩ ∧ Z b ∧ H b ≠ none ∧ H.cell ⟨b, o + i * 2, none⟩ = some (.bool x.1) ∧ H.cell ⟨b, o + i * 2 + 1, none⟩ = some (.slice sa sn sc) ∧ Zb Z H kU32 x.2 (.slice sa sn sc) := by
  obtain ⟨b, o, v, w, rfl, hz, h1, h2, h3, h4⟩ := Zcht (k1 := .bool) (k2 := kU32) (xs := p) h (i := i) (x := x) hx; have h2 : v = .bool x.1 := by simp only [Zb] at h2; exact h2
  subst h2; have h4 : Zb Z H kU32 x.2 w := h4; obtain ⟨sa, sn, sc, rfl⟩ := Zhq h4; refine ⟨b, o, sa, sn, sc, rfl, hz, fun e => ?_, h1, h3, h4⟩; simp [Heap.cell, e] at h1
theorem Zcmz {Z : Nat -> Prop} {H : Heap} {k1 k2 : Kd} {xs : List (Tp [k1, k2])} {new : List Value} {x : Tp [k1, k2]} {v w : Value} (hl : new.length = xs.length * 2) (h : ∀ i r, xs[i]? = some r -> Zc Z H [k1, k2] r (fun j => new[i * 2 + j]?)) (hv : Zb Z H k1 (hdT [k2] x) v) (hw : Zb Z H k2 (hdT [] (tlT [k2] x)) w) :
    ∀ i r, (xs ++ [x])[i]? = some r -> Zc Z H [k1, k2] r (fun j => (new ++ [v, w])[i * 2 + j]?) := by
  intro i r hr; have hi : i < xs.length + 1 := by have := (List.getElem?_eq_some_iff.1 hr).1; simpa using this
  rcases Nat.lt_or_ge i xs.length with h1 | h1
  . rw [List.getElem?_append_left h1] at hr; refine Zc.congr (fun j hj => ?_) (h i r hr); have hj : j < 2 := hj; show (new ++ [v, w])[i * 2 + j]? = new[i * 2 + j]?
    rw [List.getElem?_append_left (by omega)]
  . have : i = xs.length := by omega
    subst this; rw [List.getElem?_append_right (Nat.le_refl _)] at hr; simp only [Nat.sub_self, List.getElem?_cons_zero, Option.some.injEq] at hr; subst hr; simp only [Zc, and_true]; refine ⟨⟨v, ?_, hv⟩, w, ?_, hw⟩
    . rw [Nat.add_zero, List.getElem?_append_right (by omega), ← hl, Nat.sub_self]; rfl
    . rw [List.getElem?_append_right (by omega), show xs.length * 2 + (0 + 1) - new.length = 1 by omega]; rfl
abbrev v32 (l : List UInt32) : List Value := l.map fun x => Value.int .u32 (x.toNat : Int)
abbrev OkS (Z : Nat -> Prop) (H : Heap) (p : List Seg) (xs : List Value) : Prop := ∀ (i : Nat) (r : Tp Zbl), (p : List (Tp Zbl))[i]? = some r -> Zc Z H Zbl r (fun j => xs[i * 2 + j]?)
theorem OkS.ext {Z Z' : Nat -> Prop} {H H' : Heap} {p : List Seg} {xs : List Value} (h : OkS Z H p xs) (hz : ∀ b, Z b -> Z' b ∧ H' b = H b) : OkS Z' H' p xs := fun i r hr => Zc.ext hz _ _ _ (h i r hr)
structure SR (H0 H : Heap) (Z : Nat -> Prop) (a : Option Addr) (c : Nat) (p : List Seg) (xs : List Value) : Prop where
  own : Sh.Own H0 H a p.length c 2 Zh xs
  ok : OkS Z H p xs
  new : NewZ H0 H Z [Zl]
  cap : c <= Zi
  keep : Keep Nil H0 H
structure SL (H0 H : Heap) (Z : Nat -> Prop) (a : Option Addr) (c : Nat) (p : List Seg) (xs : List Value) (b : Bool) (l : List UInt32) (la : Option Addr) (lc : Nat) : Prop where
  own : Sh.Own H0 H a (p.length + 1) c 2 Zh (xs ++ [.bool b, .slice la l.length lc])
  ok : OkS Z H p xs
  new : NewZ H0 H Z [Zl]
  cap : c <= Zi
  keep : Keep Nil H0 H
  xl : xs.length = p.length * 2
  last : Sh.Own H0 H la l.length lc 1 Zl (v32 l)
  lz : ∀ m, la = some ⟨m, 0, none⟩ -> ¬ Z m
  lcap : lc <= Zi
section
variable {H0 H : Heap} {Z : Nat -> Prop} {a : Option Addr} {c : Nat} {p : List Seg} {xs : List Value} {b : Bool} {l : List UInt32} {la : Option Addr} {lc : Nat}
theorem SR.nil : SR H0 H0 (fun _ => False) none 0 [] [] := ⟨Own.nil, fun i r h => by simp at h, NewZ.none, by decide, Keep.refl _ _⟩
theorem SR.start {m : Nat} (h0 : H0 m = none) (hb : Blk H m Zh ⟨[]⟩) (k : Keep Nil H0 H) : SR H0 H (fun _ => False) (some ⟨m, 0, none⟩) 0 [] [] := ⟨Own.start h0 hb, fun i r h => by simp at h, NewZ.none, by decide, k⟩
theorem SR.notZ (h : SR H0 H Z a c p xs) {m : Nat} (hm : a = some ⟨m, 0, none⟩) : ¬ Z m := fun hz => by obtain ⟨_, T, q, hb, hT⟩ := h.new m hz; obtain ⟨q', hb'⟩ := h.own.live hm; exact absurd (Zhd hb hb' ▸ hT) (by decide)
theorem SL.notZ (h : SL H0 H Z a c p xs b l la lc) {m : Nat} (hm : a = some ⟨m, 0, none⟩) : ¬ Z m := fun hz => by obtain ⟨_, T, q, hb, hT⟩ := h.new m hz; obtain ⟨q', hb'⟩ := h.own.live hm; exact absurd (Zhd hb hb' ▸ hT) (by decide)
theorem SL.ne (h : SL H0 H Z a c p xs b l la lc) {m : Nat} (hm : a = some ⟨m, 0, none⟩) : la ≠ some ⟨m, 0, none⟩ := fun hz => by obtain ⟨q, hb⟩ := h.last.live hz; obtain ⟨q', hb'⟩ := h.own.live hm; exact absurd (Zhd hb hb') (by decide)
theorem SR.step (h : SR H0 H Z a c p xs) {S : Nat -> Prop} {H' : Heap} (k : Keep S H H') (h0 : ∀ x, S x -> H0 x = none) (h1 : ∀ x, S x -> ¬ Z x ∧ a ≠ some ⟨x, 0, none⟩) : SR H0 H' Z a c p xs :=
  ⟨Zfb h.own k fun x hx => (h1 x hx).2, h.ok.ext fun x hx => ⟨hx, k.same x (fun hs => (h1 x hs).1 hx) (h.new.live x hx)⟩, h.new.keep k fun x hx hs => (h1 x hs).1 hx, h.cap, Zkl h.keep k h0⟩
theorem SR.kept (h : SR H0 H Z a c p xs) {H' : Heap} (k : Keep Nil H H') : SR H0 H' Z a c p xs := h.step k (fun _ h => h.elim) fun _ h => h.elim
theorem SL.step (h : SL H0 H Z a c p xs b l la lc) {S : Nat -> Prop} {H' : Heap} (k : Keep S H H') (h0 : ∀ x, S x -> H0 x = none) (h1 : ∀ x, S x -> ¬ Z x ∧ a ≠ some ⟨x, 0, none⟩ ∧ la ≠ some ⟨x, 0, none⟩) : SL H0 H' Z a c p xs b l la lc :=
  ⟨Zfb h.own k fun x hx => (h1 x hx).2.1, h.ok.ext fun x hx => ⟨hx, k.same x (fun hs => (h1 x hs).1 hx) (h.new.live x hx)⟩, h.new.keep k fun x hx hs => (h1 x hs).1 hx, h.cap, Zkl h.keep k h0, h.xl, Zfb h.last k fun x hx => (h1 x hx).2.2, h.lz, h.lcap⟩
theorem SL.kept (h : SL H0 H Z a c p xs b l la lc) {H' : Heap} (k : Keep Nil H H') : SL H0 H' Z a c p xs b l la lc := h.step k (fun _ h => h.elim) fun _ h => h.elim
theorem Zzq {Z : Nat -> Prop} {H : Heap} {l : List UInt32} : ∀ (i : Nat) (r : Tp [.int .u32]), (l : List (Tp [.int .u32]))[i]? = some r -> Zc Z H [.int .u32] r (fun j => (v32 l)[i * 1 + j]?) := fun i r hr => by have hr' : l[i]? = some r := hr; simp only [Zc, Zb, and_true]; refine ⟨_, ?_, rfl, WfI.of (Zbti r)⟩; simp only [Nat.mul_one, Nat.add_zero, v32, List.getElem?_map, hr', Option.map_some]; rfl
theorem SL.close (h : SL H0 H Z a c p xs b l la lc) : SR H0 H (fun m => Z m ∨ la = some ⟨m, 0, none⟩) a c (p ++ [(b, l)]) (xs ++ [.bool b, .slice la l.length lc]) := by
  refine ⟨by simpa using h.own, ?_, h.new.both (NewZ.own h.last), h.cap, h.keep⟩
  refine Zcmz (k1 := .bool) (k2 := kU32) (xs := p) (x := (b, l)) h.xl (h.ok.ext fun x hx => ⟨.inl hx, rfl⟩) (by simp only [Zb]; rfl) ?_
  show Zb _ H kU32 l _; exact Zkd (ks := [.int .u32]) (l := l) h.last rfl Zzq h.lcap fun m hm => .inr hm
theorem SR.frz (h : SR H0 H Z a c p xs) : NewZ H0 H (fun m => Z m ∨ a = some ⟨m, 0, none⟩) [Zl, Zh] ∧ Zb (fun m => Z m ∨ a = some ⟨m, 0, none⟩) H Zbz p (.slice a p.length c) :=
  ⟨(h.new.mono (by simp)).both ((NewZ.own h.own).mono (by simp)), Zkd (ks := Zbl) (l := p) h.own rfl (h.ok.ext fun x hx => ⟨.inl hx, rfl⟩) h.cap fun m hm => .inr hm⟩
theorem SR.push (h : SR H0 H Z a c p xs) {xb lc' : Nat} {l : List UInt32} {la : Option Addr} {b : Bool} {K : Value -> Heap -> Prop} (hn : p.length <= 100000) (hx : Blk H xb Zh ⟨[.bool b, .slice la l.length lc']⟩) (hl : Sh.Own H0 H la l.length lc' 1 Zl (v32 l)) (hz : ∀ m, la = some ⟨m, 0, none⟩ -> ¬ Z m) (hc : lc' <= Zi)
    (hk : ∀ a' c' H', SL H0 H' Z a' c' p xs b l la lc' -> (∀ m, a' = some ⟨m, 0, none⟩ -> a = some ⟨m, 0, none⟩ ∨ H m = none) -> Keep (fun m => a = some ⟨m, 0, none⟩) H H' -> K (.slice a' (p.length + 1) c') H') :
    AppW Tryd.prog #[Zq, Zq] Zq [.slice a p.length c, .slice (some ⟨xb, 0, none⟩) 1 1] H K := by
  obtain ⟨it, i1, i2, i3⟩ := Zbij; refine Zlh (e := Zh) (xe := Zh) (k := 1) (xc := 1) (z := [.bool false, .slice none 0 0]) (new := [.bool b, .slice la l.length lc']) (by kernel_rfl) (by kernel_rfl) i1 i2 i3 (by decide) (by kernel_rfl) rfl h.own h.keep (Reads.blk hx rfl fun j hj => by simp) (by simp [Zby]) (by omega) fun a' c' H' q0 q1 q2 q3 q4 => ?_
  have hla : ∀ x, a = some ⟨x, 0, none⟩ -> la ≠ some ⟨x, 0, none⟩ := fun x ha hx => by obtain ⟨_, h1⟩ := h.own.live ha; obtain ⟨_, h2⟩ := hl.live hx; exact absurd (Zhd h1 h2) (by decide)
  refine hk a' c' H' ⟨q1, h.ok.ext fun x hx => ⟨hx, q3.same x (fun hs => h.notZ hs hx) (h.new.live x hx)⟩, h.new.keep q3 fun x hx hs => h.notZ hs hx, q0 h.cap, q4, h.own.len, Zfb hl q3 hla, hz, hc⟩ q2 q3
theorem SL.grow (h : SL H0 H Z a c p xs b l la lc) {xb : Option Addr} {k xc : Nat} {new : List UInt32} {K : Value -> Heap -> Prop} (hk : new.length = k) (hl : l.length + k <= 100000000) (hnew : Reads H xb (k * 1) (v32 new))
    (hK : ∀ la' lc' H' m, (∀ x, la' = some ⟨x, 0, none⟩ -> la = some ⟨x, 0, none⟩ ∨ H x = none) -> a = some ⟨m, 0, none⟩ -> H'.cell ⟨m, p.length * 2 + 1, none⟩ = some (.slice la l.length lc) -> H'.cell ⟨m, p.length * 2, none⟩ = some (.bool b) -> (∀ K' : Heap -> Prop, (∀ H'', SL H0 H'' Z a c p xs b (l ++ new) la' lc' -> Keep (fun x => la = some ⟨x, 0, none⟩ ∨ x = m) H H'' -> K' H'') -> Zt H' ⟨m, p.length * 2 + 1, none⟩ (.slice la' (l.length + k) lc') K') -> Keep (fun x => la = some ⟨x, 0, none⟩) H H' -> K (.slice la' (l.length + k) lc') H') :
    AppW Tryd.prog #[Zbt, Zbt] Zbt [.slice la l.length lc, .slice xb k xc] H K := by
  obtain ⟨it, i1, i2, i3⟩ := Zsy; refine Zlh (e := Zl) (xe := Zl) (z := [.int .u32 0]) (by kernel_rfl) (by kernel_rfl) i1 i2 i3 (by decide) (by kernel_rfl) rfl h.last h.keep hnew (by simp [Zby]) (by omega) fun la' lc' H' q0 q1 q2 q3 q4 => ?_
  obtain ⟨m, hm⟩ := h.own.addr (by omega)
  have hS : ∀ x, la = some ⟨x, 0, none⟩ -> ¬ Z x ∧ a ≠ some ⟨x, 0, none⟩ := fun x hx => ⟨h.lz x hx, fun e => h.ne e hx⟩; have own' := Zfb h.own q3 fun x hx => (hS x hx).2; obtain ⟨rest, hb, hr⟩ := own'.blk hm; have e1 : ∀ j, (xs ++ [Value.bool b, .slice la l.length lc] ++ rest)[p.length * 2 + j]? = ([Value.bool b, .slice la l.length lc] ++ rest)[j]? := fun j => by rw [List.append_assoc, List.getElem?_append_right (by rw [h.xl]; omega), h.xl, Nat.add_sub_cancel_left]
  refine hK la' lc' H' m q2 hm (Zbx hb _ (by rw [e1 1]; rfl)) (Zbx hb _ (by rw [show p.length * 2 = p.length * 2 + 0 from rfl, e1 0]; rfl)) (fun K' hK' => ?_) q3
  refine Zt.blk hb (by simp only [List.size_toArray, List.length_append, h.xl, List.length_cons, List.length_nil]; omega) rfl ?_
  have e2 : (⟨xs ++ [Value.bool b, .slice la l.length lc] ++ rest⟩ : Array Value).setIfInBounds (p.length * 2 + 1) (.slice la' (l.length + k) lc') = ⟨xs ++ [Value.bool b, .slice la' (l.length + k) lc'] ++ rest⟩ := by
    apply Array.ext'; simp only [Array.toList_setIfInBounds, List.append_assoc]; rw [List.set_append_right _ _ (by rw [h.xl]; omega), h.xl, Nat.add_sub_cancel_left]
    rfl
  rw [e2]; have hb2 : Blk (H'.upd m (.cells ⟨xs ++ [Value.bool b, .slice la' (l.length + k) lc'] ++ rest⟩ Zh (0, 0))) m Zh ⟨xs ++ [Value.bool b, .slice la' (l.length + k) lc'] ++ rest⟩ := Blk.upd_eq; have ho2 : ∀ y, y ≠ m -> (H'.upd m (.cells ⟨xs ++ [Value.bool b, .slice la' (l.length + k) lc'] ++ rest⟩ Zh (0, 0))) y = H' y := fun y hy => Sh.upd_ne hy; generalize H'.upd m (.cells ⟨xs ++ [Value.bool b, .slice la' (l.length + k) lc'] ++ rest⟩ Zh (0, 0)) = H2 at hb2 ho2; have k2 := Zgd hb2 ho2; have hma : ∀ x, x = m -> la' ≠ some ⟨x, 0, none⟩ := fun x hx e => by subst hx; obtain ⟨_, h1⟩ := q1.live e; exact absurd (Zhd h1 hb) (by decide)
  have e3 : (l ++ new).length = l.length + k := by rw [List.length_append, hk]
  have hz2 : ∀ x, Z x -> ¬ (la = some ⟨x, 0, none⟩) ∧ x ≠ m := fun x hx => ⟨fun e => (hS x e).1 hx, fun e => h.notZ (e ▸ hm) hx⟩; refine hK' H2 ⟨?_, ?_, ?_, h.cap, Zkl q4 k2 fun x hx => by subst hx; exact h.own.free hm, h.xl, ?_, fun x hx hzx => ?_, q0 h.lcap⟩ ⟨fun x hx hl => ?_, fun x hx => ?_⟩
  refine ⟨by have := h.own.len; simp only [List.length_append, List.length_cons, List.length_nil] at this ⊢; omega, h.own.le, .inr ⟨m, rest, hm, h.own.free hm, by rw [e3]; exact hb2, hr⟩⟩
  exact h.ok.ext fun x hx => ⟨hx, by rw [ho2 x (hz2 x hx).2]; exact q3.same x (hz2 x hx).1 (h.new.live x hx)⟩
  exact (h.new.keep q3 fun x hx => (hz2 x hx).1).keep k2 fun x hx => (hz2 x hx).2
  . rw [e3]; have := Zfb q1 k2 hma; rw [show v32 (l ++ new) = v32 l ++ v32 new from List.map_append]
    exact this
  rcases q2 x hx with e | e; exact (hS x e).1 hzx; exact h.new.live x hzx e; rw [ho2 x fun e => hx (.inr e)]; exact q3.same x (fun e => hx (.inl e)) hl; by_cases e : x = m; subst e; exact hb2.some; rw [ho2 x e]; exact q3.live x hx
end
def PSt (H0 H : Heap) (F : Nat -> Prop) (a : Option Addr) (n c : Nat) (p : List Seg) : Prop :=
  (p = [] ∧ n = 0 ∧ SR H0 H (fun _ => False) a c [] [] ∧ ∀ x, F x ↔ a = some ⟨x, 0, none⟩) ∨
  ∃ Z init b l xs la lc, p = init ++ [(b, l)] ∧ n = p.length ∧ SL H0 H Z a c init xs b l la lc ∧ ∀ x, F x ↔ (a = some ⟨x, 0, none⟩ ∨ la = some ⟨x, 0, none⟩ ∨ Z x)
section
variable {H0 H H' : Heap} {F : Nat -> Prop} {a : Option Addr} {n c : Nat} {p : List Seg}
theorem PSt.len (h : PSt H0 H F a n c p) : n = p.length := by rcases h with ⟨rfl, rfl, _⟩ | ⟨Z, init, b, l, xs, la, lc, rfl, rfl, _⟩ <;> rfl
theorem PSt.keep (h : PSt H0 H F a n c p) : Keep Nil H0 H := by rcases h with ⟨_, _, h, _⟩ | ⟨Z, init, b, l, xs, la, lc, _, _, h, _⟩; exact h.keep; exact h.keep
theorem PSt.new (h : PSt H0 H F a n c p) {x : Nat} (hx : F x) : H0 x = none ∧ ∃ T q, Blk H x T q ∧ T ∈ [Zl, Zh] := by
  rcases h with ⟨_, _, h, hF⟩ | ⟨Z, init, b, l, xs, la, lc, _, _, h, hF⟩; have hx := (hF x).1 hx; obtain ⟨q, hq⟩ := h.own.live hx; exact ⟨h.own.free hx, _, q, hq, by simp⟩
  . rcases (hF x).1 hx with hx | hx | hx; obtain ⟨q, hq⟩ := h.own.live hx; exact ⟨h.own.free hx, _, q, hq, by simp⟩
    obtain ⟨q, hq⟩ := h.last.live hx; exact ⟨h.last.free hx, _, q, hq, by simp⟩
    obtain ⟨h1, T, q, h2, h3⟩ := h.new x hx; exact ⟨h1, T, q, h2, List.mem_cons.2 (.inl (List.mem_singleton.1 h3))⟩
theorem PSt.live (h : PSt H0 H F a n c p) {x : Nat} (hx : F x) : H x ≠ none := by obtain ⟨_, T, q, hq, _⟩ := h.new hx; exact hq.some
theorem PSt.agree (h : PSt H0 H F a n c p) (k : ∀ x, H x ≠ none -> F x ∨ H0 x ≠ none -> H' x = H x) (lv : ∀ x, H x ≠ none -> H' x ≠ none) : PSt H0 H' F a n c p := by have kk : Keep (fun x => ¬ (F x ∨ H0 x ≠ none)) H H' := ⟨fun x hx hl => k x hl (Classical.byContradiction hx), lv⟩; have h0 : ∀ x, ¬ (F x ∨ H0 x ≠ none) -> H0 x = none := fun x hx => Classical.byContradiction fun e => hx (.inr e); rcases h with ⟨h1, h2, h, hF⟩ | ⟨Z, init, b, l, xs, la, lc, h1, h2, h, hF⟩; exact .inl ⟨h1, h2, h.step kk h0 fun x hx => ⟨id, fun e => hx (.inl ((hF x).2 e))⟩, hF⟩; exact .inr ⟨Z, init, b, l, xs, la, lc, h1, h2, h.step kk h0 fun x hx => ⟨fun e => hx (.inl ((hF x).2 (.inr (.inr e)))), fun e => hx (.inl ((hF x).2 (.inl e))), fun e => hx (.inl ((hF x).2 (.inr (.inl e))))⟩, hF⟩
theorem PSt.kept (h : PSt H0 H F a n c p) (k : Keep Nil H H') : PSt H0 H' F a n c p := h.agree (fun x hl _ => k.same x (fun h => h) hl) k.live
theorem PSt.step (h : PSt H0 H F a n c p) {S : Nat -> Prop} (k : Keep S H H') (hS : ∀ x, S x -> H0 x = none ∧ ¬ F x) : PSt H0 H' F a n c p := h.agree (fun x hl hx => k.same x (fun hs => by
  obtain ⟨h1, h2⟩ := hS x hs; rcases hx with hx | hx; exact h2 hx
  . exact hx h1) hl) k.live
theorem PSt.frz (h : PSt H0 H F a n c p) : NewZ H0 H F [Zl, Zh] ∧ Zb F H Zbz p (.slice a n c) := by refine ⟨fun x hx => h.new hx, ?_⟩; rcases h with ⟨rfl, rfl, h, hF⟩ | ⟨Z, init, b, l, xs, la, lc, rfl, rfl, h, hF⟩; have := h.frz.2; exact Zb.ext (fun x hx => ⟨(hF x).2 (hx.elim (fun h => h.elim) id), rfl⟩) _ _ _ this; have := h.close.frz.2; refine Zb.ext (fun x hx => ⟨(hF x).2 ?_, rfl⟩) _ _ _ this; rcases hx with (hx | hx) | hx; exact .inr (.inr hx); exact .inr (.inl hx); exact .inl hx
theorem PSt.push (h : PSt H0 H F a n c p) {xb : Nat} {b : Bool} {K : Value -> Heap -> Prop} (hn : p.length <= 100000) (hx : Blk H xb Zh ⟨[.bool b, .slice none 0 0]⟩)
    (hk : ∀ a' c' H' F', PSt H0 H' F' a' (n + 1) c' (p ++ [(b, [])]) -> (∀ x, F' x -> F x ∨ H x = none) -> Keep F H H' -> K (.slice a' (n + 1) c') H') :
    AppW Tryd.prog #[Zq, Zq] Zq [.slice a n c, .slice (some ⟨xb, 0, none⟩) 1 1] H K := by
  rcases h with ⟨rfl, rfl, h, hF⟩ | ⟨Z, init, b0, l, xs, la, lc, rfl, rfl, h, hF⟩
  . refine h.push (l := []) (lc' := 0) (b := b) hn hx Own.nil (fun m e => by cases e) (by decide) fun a' c' H' q1 q2 q3 => ?_
    refine hk a' c' H' (fun x => a' = some ⟨x, 0, none⟩) (.inr ⟨_, [], b, [], [], none, 0, rfl, rfl, q1, fun x => ⟨.inl, fun e => ?_⟩⟩) (fun x e => ?_) (q3.mono fun x e => (hF x).2 e); rcases e with e | e | e; exact e; cases e; exact e.elim; exact (q2 x e).imp (fun e => (hF x).2 e) id
  . have hc := h.close; refine hc.push (l := []) (lc' := 0) (b := b) hn hx Own.nil (fun m e => by cases e) (by decide) fun a' c' H' q1 q2 q3 => ?_
    refine hk a' c' H' (fun x => a' = some ⟨x, 0, none⟩ ∨ (Z x ∨ la = some ⟨x, 0, none⟩)) (.inr ⟨_, _, b, [], _, none, 0, rfl, by simp, q1, fun x => ⟨fun e => ?_, fun e => ?_⟩⟩) (fun x e => ?_) (q3.mono fun x e => (hF x).2 (.inl e))
    rcases e with e | e; exact .inl e; exact .inr (.inr e); rcases e with e | e | e; exact .inl e; cases e; exact .inr e; rcases e with e | e | e; exact (q2 x e).imp (fun e => (hF x).2 (.inl e)) id; exact .inl ((hF x).2 (.inr (.inr e))); exact .inl ((hF x).2 (.inr (.inl e)))
theorem PSt.last (h : PSt H0 H F a n c p) (hp : p ≠ []) : ∃ m init b l la lc, a = some ⟨m, 0, none⟩ ∧ F m ∧ p = init ++ [(b, l)] ∧ n = init.length + 1 ∧ H.cell ⟨m, init.length * 2, none⟩ = some (.bool b) ∧ H.cell ⟨m, init.length * 2 + 1, none⟩ = some (.slice la l.length lc) ∧
    (∀ {x : Nat} {u : UInt32} {H1 : Heap} {K : Value -> Heap -> Prop}, Keep Nil H H1 -> Blk H1 x Zl ⟨[.int .u32 (u.toNat : Int)]⟩ -> l.length <= 10000000 ->
      (∀ la' lc' H2, (∀ K' : Heap -> Prop, (∀ H3 F', PSt H0 H3 F' a n c (init ++ [(b, l ++ [u])]) -> (∀ x, F' x -> F x ∨ H1 x = none) -> Keep F H1 H3 -> K' H3) -> Zt H2 ⟨m, init.length * 2 + 1, none⟩ (.slice la' (l.length + 1) lc') K') -> Keep F H1 H2 -> K (.slice la' (l.length + 1) lc') H2) ->
      AppW Tryd.prog #[Zbt, Zbt] Zbt [.slice la l.length lc, .slice (some ⟨x, 0, none⟩) 1 1] H1 K) := by
  rcases h with ⟨h, _⟩ | ⟨Z, init, b, l, xs, la, lc, rfl, rfl, h, hF⟩; exact absurd h hp; obtain ⟨m, hm⟩ := h.own.addr (by omega)
  obtain ⟨rest, hb, hr⟩ := h.own.blk hm; have e1 : ∀ j, (xs ++ [Value.bool b, .slice la l.length lc] ++ rest)[init.length * 2 + j]? = ([Value.bool b, .slice la l.length lc] ++ rest)[j]? := fun j => by rw [List.append_assoc, List.getElem?_append_right (by rw [h.xl]; omega), h.xl, Nat.add_sub_cancel_left]
  refine ⟨m, init, b, l, la, lc, hm, (hF m).2 (.inl hm), rfl, by simp, Zbx hb _ (by rw [show init.length * 2 = init.length * 2 + 0 from rfl, e1 0]; rfl), Zbx hb _ (by rw [e1 1]; rfl), ?_⟩
  intro x u H1 K k1 hx hl hK; have h1 := h.kept k1; refine h1.grow (new := [u]) (k := 1) (xc := 1) rfl (by omega) (Reads.blk hx rfl fun j hj => by simp) fun la' lc' H2 m' q0 e _ _ q1 q2 => ?_
  rw [hm] at e; simp only [Option.some.injEq, Addr.mk.injEq, and_true] at e; subst e; refine hK la' lc' H2 (fun K' hK' => q1 K' fun H3 q3 q4 => hK' H3 (fun x => a = some ⟨x, 0, none⟩ ∨ la' = some ⟨x, 0, none⟩ ∨ Z x) (.inr ⟨Z, init, b, l ++ [u], xs, la', lc', rfl, by simp, q3, fun x => Iff.rfl⟩) (fun x e => ?_) (q4.mono fun x e => ?_)) (q2.mono fun x e => (hF x).2 (.inr (.inl e)))
  rcases e with e | e | e; exact .inl ((hF x).2 (.inl e)); exact (q0 x e).imp (fun e => (hF x).2 (.inr (.inl e))) id; exact .inl ((hF x).2 (.inr (.inr e))); rcases e with e | e; exact (hF x).2 (.inr (.inl e)); subst e; exact (hF _).2 (.inl hm)
end
end Go.Proofs.YtflfamhboalgiaaDoor
end
section
set_option maxRecDepth 100000
namespace Go.Proofs.YtflfamhboalgiaaDoor
open Go.Sh
theorem Zbzp {c : UInt8} : ∀ {s : List UInt8}, (c ∉ s ∧ Lib.indexByte s c = -1) ∨ ∃ pre rest, s = pre ++ c :: rest ∧ c ∉ pre ∧ Lib.indexByte s c = pre.length := by
  intro s; have hge := Lib.indexByte_ge s c; by_cases h : Lib.indexByte s c = -1; refine .inl ⟨fun hc => ?_, h⟩; obtain ⟨k, hk⟩ := List.getElem?_of_mem hc; exact Lib.indexByte_none h k hk
  . obtain ⟨o, ho⟩ : ∃ o : Nat, Lib.indexByte s c = o := ⟨(Lib.indexByte s c).toNat, by omega⟩
    obtain ⟨h1, h2⟩ := Lib.indexByte_some ho; have hlt : o < s.length := (List.getElem?_eq_some_iff.1 h1).1; have e : s = s.take o ++ c :: s.drop (o + 1) := by
      conv => lhs; rw [← List.take_append_drop o s]
      rw [List.drop_eq_getElem_cons hlt]; have := (List.getElem?_eq_some_iff.1 h1).2; rw [this]
    refine .inr ⟨s.take o, s.drop (o + 1), e, fun hc => ?_, ?_⟩
    . obtain ⟨k, hk⟩ := List.getElem?_of_mem hc; have hk2 : k < o := by have := (List.getElem?_eq_some_iff.1 hk).1; rw [List.length_take] at this; omega
      rw [List.getElem?_take_of_lt hk2] at hk; exact h2 k hk2 hk
    rw [ho, List.length_take]; congr 1; omega
abbrev StrU := List UInt8 × Unit
def Zen (c : UInt8) (s : List UInt8) : List StrU := (spl c s).map fun x => (x, ())
def Zqq : It := ⟨[.str], [.str, .str, .int .i64], fun c => Zen ((c.1 : List UInt8).headD 0) c.2.1, fun c => (c.1 : List UInt8).length = 1 ∧ (c.2.1 : List UInt8).length <= 1000000000000 ∧ (0 : Int) = c.2.2.1⟩
theorem Zcjc {c : UInt8} {s : List UInt8} (h : c ∉ s) : Zen c s = [(s, ())] := by rw [Zen, Zoz h]; rfl
theorem Zcro {c : UInt8} {pre rest : List UInt8} (h : c ∉ pre) : Zen c (pre ++ c :: rest) = (pre, ()) :: Zen c rest := by rw [Zen, Zxm h]; rfl
theorem Zcrb {H : Heap} (s : List UInt8) (c : UInt8) : FnW Tryd.prog Zblz ⟨[.string (bstr s), .string (bstr [c])]⟩ H fun v H' => v = .int .i64 (Lib.indexByte s c) ∧ H' = H := by
  refine ⟨⟨_, Tryd.func79, by kernel_rfl, by kernel_rfl⟩, fun W hW => ?_⟩
  subst hW; refine (Tryd.strings_Index_one (bstr s) c W).mono ?_; rintro e W' ⟨rfl, rfl⟩; exact ⟨_, rfl, ⟨by simp [bstr], rfl⟩, Rest.refl _⟩
theorem Zgy {H : Heap} {b : Nat} {v : Value} {T : TypeId} (h : H b = some (.cells ⟨[v]⟩ T (0, 0))) : H.cell ⟨b, 0, none⟩ = some v := by simp [Heap.cell, h]
theorem Zee (s : List UInt8) : (bstr s).size = s.length := by simp [bstr, ByteArray.size]
section
variable {l : Nat} {Hs : Heap} {b1 b2 b3 : Nat} {c : UInt8} {C : Cons Tryd.prog l Zqq.ps Hs [b1, b2, b3]}
structure SI (c : UInt8) (C : Cons Tryd.prog l Zqq.ps Hs [b1, b2, b3]) (rest : List StrU) (s : List UInt8) (H : Heap) (Z W : Nat -> Prop) : Prop where
  J : C.J Z W rest H
  x1 : ∃ T, H b1 = some (.cells ⟨[.string (bstr [c])]⟩ T (0, 0))
  x2 : ∃ T, H b2 = some (.cells ⟨[.string (bstr s)]⟩ T (0, 0))
  x3 : ∃ T, H b3 = some (.cells ⟨[.int .i64 0]⟩ T (0, 0))
  w : ∀ b ∈ [b1, b2, b3], ¬ W b ∧ ¬ Z b
theorem SI.round {x : List UInt8} {rest : List StrU} {s : List UInt8} {H : Heap} {Z W : Nat -> Prop} (q : SI c C ((x, ()) :: rest) s H Z W) (hx : x.length <= Zi) :
    Zej Tryd.prog l [.string (bstr x)] H fun w H' => (w = .bool true ∧ ∃ Z' W', SI c C rest s H' Z' W') ∨ (w = .bool false ∧ ∃ Z' W', C.X Z' W' H') := by
  obtain ⟨T1, h1⟩ := q.x1; obtain ⟨T2, h2⟩ := q.x2; obtain ⟨T3, h3⟩ := q.x3; have live : ∀ b ∈ [b1, b2, b3], H b ≠ none := fun b hb => by simp only [List.mem_cons, List.not_mem_nil, or_false] at hb; rcases hb with rfl | rfl | rfl; rw [h1]; simp; rw [h2]; simp; rw [h3]; simp
  refine Zej.mono (fun w H' hv => ?_) (C.round (Zx := fun _ => False) (x := ((x, ()) : StrU)) q.J ?_ (fun b hb => hb.elim))
  . obtain ⟨k1, k2, Z', W', k3, k4, k5, k6, k7, hk⟩ := hv; have same : ∀ b ∈ [b1, b2, b3], H' b = H b := fun b hb => k1 b (live b hb) (q.w b hb).1; rcases hk with ⟨rfl, hk⟩ | ⟨rfl, hk⟩
    . refine .inl ⟨rfl, Z', W', hk, ⟨T1, (same b1 (by simp)).trans h1⟩, ⟨T2, (same b2 (by simp)).trans h2⟩, ⟨T3, (same b3 (by simp)).trans h3⟩, fun b hb => ⟨fun h => ?_, fun h => ?_⟩⟩
      rcases k4 b h with h | h; exact (q.w b hb).1 h; exact live b hb h; rcases k5 b h with h | h | h | h; exact (q.w b hb).2 h; exact h; exact (q.w b hb).1 h; exact live b hb h
    exact .inr ⟨rfl, Z', W', hk⟩
  show Zkm _ H [.str] ((x, ()) : StrU) _; simp only [Zkm, pksA, pkA, SimL, SimV, and_true, true_and]; exact hx
theorem Zchh {Z W : Nat -> Prop} {s : List UInt8} (hd : b1 ≠ b2 ∧ b1 ≠ b3 ∧ b2 ≠ b3) (hl : s.length <= 1000000000000) (q : SI c C (Zen c s) s Hs Z W) :
    FnW Tryd.prog Zid ⟨[.func (.yield l) #[] #[], Zcg b1, Zcg b2, Zcg b3]⟩ Hs fun _ H' => ∃ Z' W', C.J Z' W' [] H' ∨ C.X Z' W' H' := by
  refine Zcll l b1 b2 b3 ?_; unfold Zbcg; obtain ⟨T1, h1⟩ := q.x1; refine ⟨_, Zgy h1, ifF (by rw [Zee]; rfl) ?_⟩
  refine ⟨fun k _ H => ∃ s Z W, k = s.length ∧ s.length <= 1000000000000 ∧ SI c C (Zen c s) s H Z W, s.length, ⟨s, Z, W, rfl, hl, q⟩, ?_⟩; clear h1 q hl; rintro k u H ⟨s, Z, W, rfl, hl, q⟩ g; obtain ⟨T1, h1⟩ := q.x1; obtain ⟨T2, h2⟩ := q.x2; obtain ⟨T3, h3⟩ := q.x3; unfold Zbqu; refine ⟨_, Zgy h2, _, Zgy h1, (Zcrb s c).mono ?_⟩; rintro v H6 ⟨rfl, rfl⟩; refine ⟨_, rfl, ?_⟩; rcases Zbzp (c := c) (s := s) with ⟨hc, hi⟩ | ⟨pre, rest, rfl, hc, hi⟩
  . rw [hi]; refine ifT rfl ⟨_, Zgy h2, ?_⟩; rw [Zcjc hc] at q; refine Zej.mono (fun w H' hv => ?_) (q.round (by unfold Zi; omega))
    rcases hv with ⟨rfl, Z', W', q'⟩ | ⟨rfl, Z', W', hx⟩; exact ⟨true, rfl, fun H2 hs => C.shut hs ⟨Z', W', .inl q'.J⟩⟩; exact ⟨false, rfl, fun H2 hs => C.shut hs ⟨Z', W', .inr hx⟩⟩
  . rw [hi]; have hsz : (pre ++ c :: rest).length = pre.length + (rest.length + 1) := by simp
    rw [Zcro hc] at q; have e1 : IntKind.wrap .i64 ((pre.length : Int) + 0) = (pre.length : Int) := by rw [Zg (by omega) (by omega)]; omega
    have e2 : ((bstr [c]).size : Int) = 1 := by rw [Zee]; rfl
    have e3 : IntKind.wrap .i64 ((pre.length : Int) + 1) = ((pre.length + 1 : Nat) : Int) := by rw [Zg (by omega) (by omega)]; rfl
    refine ifF (decide_eq_false (by omega)) ⟨_, Zgy h2, _, Zgy h3, ?_⟩
    rw [e1]; refine ⟨by omega, by rw [Zee]; omega, ?_⟩
    rw [Int.toNat_natCast]; show Zej _ _ [Value.string ((bstr (pre ++ c :: rest)).extract 0 pre.length)] _ _; rw [Znm _ (Nat.zero_le _), List.drop_zero, List.take_left]; refine Zej.mono (fun w H' hv => ?_) (q.round (by unfold Zi; omega))
    rcases hv with ⟨rfl, Z', W', q'⟩ | ⟨rfl, Z', W', hx⟩
    . obtain ⟨T1', h1'⟩ := q'.x1; obtain ⟨T2', h2'⟩ := q'.x2; refine ⟨true, rfl, ifF rfl ⟨_, Zgy h2', _, Zgy h1', ?_⟩⟩; rw [e2, e3]; refine ⟨by omega, by rw [Zee]; omega, ?_⟩
      rw [Int.toNat_natCast]; show Zt _ _ (Value.string ((bstr (pre ++ c :: rest)).extract (pre.length + 1) (bstr (pre ++ c :: rest)).size)) _; rw [Zee, Znm _ (by omega), List.take_length]
      have e4 : (pre ++ c :: rest).drop (pre.length + 1) = rest := by rw [show pre.length + 1 = (pre ++ [c]).length by simp, show pre ++ c :: rest = (pre ++ [c]) ++ rest by simp, List.drop_left]
      rw [e4]; refine Zt.blk (T := T2') h2' (by simp) rfl ⟨rest.length, by omega, rest, Z', W', rfl, by omega, ?_⟩
      obtain ⟨T3', h3'⟩ := q'.x3; refine ⟨C.stJ q'.J (fun b hb hw => ?_) (fun b hb => ?_), ⟨T1', by rw [Sh.upd_ne hd.1]; exact h1'⟩, ⟨T2', by rw [Sh.upd_eq]; rfl⟩, ⟨T3', by rw [Sh.upd_ne hd.2.2.symm]; exact h3'⟩, q'.w⟩
      . refine Sh.upd_ne fun e => ?_; subst e; rcases hw with h | h | h; exact (q'.w b (by simp)).2 h
        exact (q'.w b (by simp)).1 h
        exact h.2 (by simp)
      by_cases e : b = b2; subst e; rw [Sh.upd_eq]; simp; rw [Sh.upd_ne e]; exact hb
    exact ⟨false, rfl, ifT rfl fun H2 hs => C.shut hs ⟨Z', W', .inr hx⟩⟩
end
theorem Zbuj {A : Type} {l : List A} (h : l.length = 3) : ∃ a b c, l = [a, b, c] := by
  match l, h with
  | [a, b, c], _ => exact ⟨a, b, c, rfl⟩
theorem Zcur : ItOk Tryd.prog Zid Zqq := by
  intro Hs Z W bs us c l C hpre hnd hlen hval hus hwf hzl hbz hwl hlay hlo hJ; obtain ⟨sep, s, n, cu⟩ := c; obtain ⟨h1, h2, h3⟩ := hpre; change (sep : List UInt8).length = 1 at h1; change (0 : Int) = n at h3; subst h3; obtain ⟨c, rfl⟩ : ∃ c : UInt8, sep = [c] := by
    match sep, h1 with
    | [c], _ => exact ⟨c, rfl⟩
  have hus' : SimL ⟨Z, fun _ => 0, fun _ => .nilFunc⟩ Hs 0 [AV.str [c], .str s, .int .i64 0] us := hus; obtain ⟨v1, v2, v3, rfl⟩ := Zbuj (hus'.len).symm; obtain ⟨b1, b2, b3, rfl⟩ := Zbuj (l := bs) (by rw [hlen]; rfl)
  simp only [SimL, SimV] at hus'; obtain ⟨⟨rfl, _⟩, ⟨rfl, _⟩, ⟨rfl, _⟩, _⟩ := hus'; have hnd : b1 ≠ b2 ∧ b1 ≠ b3 ∧ b2 ≠ b3 := by simp only [List.nodup_cons, List.mem_cons, List.not_mem_nil, or_false, not_or] at hnd; exact ⟨hnd.1.1, hnd.1.2, hnd.2.1⟩
  exact Zchh (c := c) hnd h2 ⟨hJ, hval 0 b1 _ rfl rfl, hval 1 b2 _ rfl rfl, hval 2 b3 _ rfl rfl, fun b hb => ⟨(hbz b hb).2, (hbz b hb).1⟩⟩
end Go.Proofs.YtflfamhboalgiaaDoor
end
section
set_option maxHeartbeats 1000000
namespace Go.Proofs.YtflfamhboalgiaaDoor
open Go.Sh
def chunks (n : Nat) : Nat -> List UInt8 -> List (List UInt8)
  | 0, _ => []
  | _ + 1, [] => []
  | k + 1, x :: r => (x :: r).take n :: chunks n k ((x :: r).drop n)
theorem Zbjh {n : Nat} (hn : 0 < n) : ∀ (k k' : Nat) (s : List UInt8), s.length <= k -> s.length <= k' -> chunks n k s = chunks n k' s
  | 0, 0, s, _, _ => rfl
  | 0, k' + 1, [], _, _ => rfl
  | 0, _ + 1, _ :: _, h, _ => by simp at h
  | k + 1, 0, [], _, _ => rfl
  | _ + 1, 0, _ :: _, _, h => by simp at h
  | k + 1, k' + 1, [], _, _ => rfl
  | k + 1, k' + 1, x :: r, h, h' => by
    simp only [chunks]; have e : ((x :: r).drop n).length <= r.length := by simp only [List.length_drop, List.length_cons]; omega
    simp only [List.length_cons] at h h'; rw [Zbjh hn k k' _ (by omega) (by omega)]
def Zgc (s : List UInt8) (n : Int) : List (List UInt8 × Unit) := (chunks n.toNat s.length s).map fun x => (x, ())
theorem Zcqw (n : Int) : Zgc [] n = [] := rfl
theorem Zbqz {s : List UInt8} {n : Int} (hn : 1 <= n) (hs : s ≠ []) : Zgc s n = (s.take n.toNat, ()) :: Zgc (s.drop n.toNat) n := by
  cases s with
  | nil => exact absurd rfl hs
  | cons x r =>
    unfold Zgc; have e : ((x :: r).drop n.toNat).length <= r.length := by simp only [List.length_drop, List.length_cons]; omega
    simp only [List.length_cons, chunks, List.map_cons]; rw [Zbjh (by omega) r.length _ _ e (Nat.le_refl _)]
def Zbzb (s : List UInt8) (n : Int) : Prop := 1 <= n ∧ n <= 4611686018427387904 ∧ s.length <= 4611686018427387904
def Zmq : It := ⟨[.lst [.int .u8]], [.lst [.int .u8], .int .i64], fun c => Zgc c.1 c.2.1, fun c => Zbzb c.1 c.2.1⟩
theorem Zbyd {A : Type} {l : List A} (h : l.length = 2) : ∃ a b, l = [a, b] := by
  match l, h with
  | [a, b], _ => exact ⟨a, b, rfl⟩
theorem Zcaw {Hs : Heap} {Z W : Nat -> Prop} {b1 b2 : Nat} {T1 T2 : TypeId} {s : List UInt8} {n : Int} {v1 : Value} {l : Nat} {C : Cons Tryd.prog l Zmq.ps Hs [b1, b2]} (hpre : Zbzb s n) (hs : Zb Z Hs (.lst [.int .u8]) s v1)
    (hb1 : Hs b1 = some (.cells ⟨[v1]⟩ T1 (0, 0))) (hb2 : Hs b2 = some (.cells ⟨[.int .i64 n]⟩ T2 (0, 0))) (hw1 : ¬ W b1) (hw2 : ¬ W b2) (hJ : C.J Z W (Zgc s n) Hs) :
    FnW Tryd.prog Zpj ⟨[.func (.yield l) #[] #[], Zcg b1, Zcg b2]⟩ Hs fun _ H' => ∃ Z' W', C.J Z' W' [] H' ∨ C.X Z' W' H' := by
  obtain ⟨hn1, hn2, hsl⟩ := hpre; simp only [Zb] at hs; obtain ⟨a, m, cp, rfl, hsm, hmc, hcm, hat⟩ := hs; have hsm' : s.length = m := hsm; unfold Zi at hcm; refine Zcbk l b1 b2 ?_; unfold Zbhd; refine ⟨fun k x H => ∃ (i : Nat) (Z' W' : Nat -> Prop), x.1 = (i : Int) ∧ k = s.length - i ∧ C.J Z' W' (Zgc (s.drop i) n) H ∧ H b1 = Hs b1 ∧ H b2 = Hs b2 ∧ (∀ b, Z b -> Z' b ∧ H b = Hs b) ∧ ¬ W' b1 ∧ ¬ W' b2,
    s.length, ⟨0, Z, W, rfl, rfl, hJ, rfl, rfl, fun b hb => ⟨hb, rfl⟩, hw1, hw2⟩, ?_⟩
  rintro k x H ⟨i, Z', W', hx, rfl, hJi, h1, h2, hZ, hw1, hw2⟩ gE; have c1 := Zgy (h1.trans hb1); have c2 := Zgy (h2.trans hb2); obtain ⟨xi, xu⟩ := x; simp only at hx; subst hx; simp only; unfold Zbwm; refine ⟨a, m, cp, c1, ?_⟩; refine IfB.intro (fun hlt => ?_) (fun hge => ?_)
  . have him : i < m := by have := of_decide_eq_true hlt; omega
    refine ⟨n, c2, a, m, cp, c1, by omega, by omega, a, m, cp, c1, ?_⟩
    have he : ∃ e : Nat, e = min n.toNat (m - i) := ⟨_, rfl⟩; obtain ⟨e, he⟩ := he; have hw : IntKind.wrap .i64 ((i : Int) + (min n ((m - (i : Int).toNat : Nat) : Int))) = ((i + e : Nat) : Int) := by rw [Zg] <;> simp only [Int.toNat_natCast] <;> omega
    rw [hw]; refine ⟨by omega, by omega, ?_⟩
    simp only [Int.toNat_natCast]; refine ⟨by omega, by omega, ?_⟩
    simp only [Int.toNat_natCast]; refine ⟨by omega, by omega, ?_⟩
    simp only [Int.toNat_natCast]; rw [if_neg (by omega)]
    obtain ⟨b, o, rfl, hzb, cs, T, fr, hcb, hcc⟩ := hat (by omega)
    have hne : s.drop i ≠ [] := fun h0 => by have := congrArg List.length h0; simp only [List.length_drop, List.length_nil] at this; omega
    rw [Zbqz hn1 hne] at hJi; refine Zej.mono (fun v H' hv => ?_) (C.round (Zx := Z) hJi ?_ (fun b hb => .inl (hZ b hb).1))
    . obtain ⟨k1, k2, Z'', W'', k3, k4, k5, k6, k7, hk⟩ := hv; have hl1 : H b1 ≠ none := by rw [h1, hb1]; simp
      have hl2 : H b2 ≠ none := by rw [h2, hb2]; simp
      rcases hk with ⟨rfl, hk⟩ | ⟨rfl, hk⟩
      . refine ⟨true, rfl, ifF rfl ⟨n, Zgy (((k1 b2 hl2 hw2).trans h2).trans hb2), s.length - (i + n.toNat), by omega, i + n.toNat, Z'', W'', ?_, rfl, ?_, (k1 b1 hl1 hw1).trans h1, (k1 b2 hl2 hw2).trans h2, fun b hb => ?_, fun h => ?_, fun h => ?_⟩⟩
        show IntKind.wrap .i64 ((i : Int) + n) = _; rw [Zg] <;> omega; rw [← List.drop_drop]; exact hk; obtain ⟨q1, q2⟩ := k3 b (.inl (hZ b hb).1); exact ⟨q1, q2.trans (hZ b hb).2⟩; rcases k4 b1 h with h | h; exact hw1 h; exact hl1 h; rcases k4 b2 h with h | h; exact hw2 h; exact hl2 h
      exact ⟨false, rfl, ifT rfl fun H2 hs2 => C.shut hs2 ⟨Z'', W'', .inr hk⟩⟩
    . show Zkm Z H [.lst [.int .u8]] ((s.drop i).take n.toNat, ()) _; simp only [Zkm, pksA, pkA, SimL, SimV, and_true]; simp only [Zb]; refine ⟨_, _, _, rfl, ?_, Nat.le_refl _, by unfold Zi; omega, fun _ => ⟨b, o + i, by simp [Addr.add], hzb, cs, T, fr, by rw [(hZ b hzb).2]; exact hcb, fun j x hj => ?_⟩⟩
      show ((s.drop i).take n.toNat).length = _; simp only [List.length_take, List.length_drop]; omega; have hj' : ((s.drop i).take n.toNat)[j]? = some x := hj; rw [List.getElem?_take] at hj'; split at hj'; rw [List.getElem?_drop] at hj'; refine Zc.congr (fun jj _ => ?_) (Zc.ext (fun b hb => ⟨hb, (hZ b hb).2⟩) _ _ _ (hcc (i + j) x hj')); congr 1; simp only [List.length_cons, List.length_nil]; omega; cases hj'
  . have hge' : m <= i := by have := of_decide_eq_false hge; omega
    intro H2 hs2; refine C.shut hs2 ⟨Z', W', .inl ?_⟩; have : s.drop i = [] := List.drop_eq_nil_of_le (by omega)
    rw [this] at hJi; exact hJi
theorem Zccb : ItOk Tryd.prog Zpj Zmq := by
  intro Hs Z W bs us c l C hpre hnd hlen hval hus hwf hzl hbz hwl hlay hlo hJ; obtain ⟨s, n, cu⟩ := c; have hus' : SimL ⟨Z, fun _ => 0, fun _ => .nilFunc⟩ Hs 0 [AV.lst [.int .u8] s, .int .i64 n] us := hus; obtain ⟨v1, v2, rfl⟩ := Zbyd (hus'.len).symm; obtain ⟨b1, b2, rfl⟩ := Zbyd (l := bs) (by rw [hlen]; rfl)
  simp only [SimL, SimV] at hus'; obtain ⟨hs, ⟨rfl, hnr⟩, _⟩ := hus'; obtain ⟨T1, hb1⟩ := hval 0 b1 v1 rfl rfl; obtain ⟨T2, hb2⟩ := hval 1 b2 _ rfl rfl; exact Zcaw hpre hs hb1 hb2 (hbz b1 (by simp)).2 (hbz b2 (by simp)).2 hJ
end Go.Proofs.YtflfamhboalgiaaDoor
end
section
set_option maxRecDepth 100000
namespace Go.Proofs.YtflfamhboalgiaaDoor
open Go.Sh
theorem nD20 (u : Nat) (h : u < 18446744073709551616) : Lib.nDigits u <= 20 := by
  by_cases h1 : 1 <= u; have := Lib.numDigits_eq u h1 h; split at this <;> omega
  . rw [Lib.nDigits_small (by omega)]; decide
theorem Zbtj : Tryd.prog.globalNamed "internal/strconv.uint64pow10" = some Zix := by kernel_rfl
def Zkh (H : Heap) : Prop := ∃ T fr, H Zix = some (.cells Zts T fr)
theorem Zcpm {H : Heap} (h : Laid.ok (layH H)) : Zkh H := h.1
theorem Zkh.keep {H H' : Heap} (h : Zkh H) (k : Keep Nil H H') : Zkh H' := by obtain ⟨T, fr, h⟩ := h; exact ⟨T, fr, (k.same _ (fun h => h) (by rw [h]; simp)).trans h⟩
theorem Zchv {W : World} (h : Zkh (hp W)) : Lib.TabIs Tryd.prog W "internal/strconv.uint64pow10" .u64 Lib.pow10Tab := by
  obtain ⟨T, fr, hg⟩ := h; unfold Lib.TabIs World.var?
  rw [Zbtj]; have hg' : W.heap[Zix]? = some (.cells Zts T fr) := hg; simp only [Option.bind_some, hg']; rfl
theorem Zcve {H : Heap} {n : Nat} (h : n < 100) : FnW Tryd.prog Zbyg ⟨[.int .i64 (n : Int)]⟩ H fun v H' => v = .string (bstr (Lib.decDigits n)) ∧ H' = H := by
  refine ⟨⟨_, Tryd.func71, by kernel_rfl, by kernel_rfl⟩, fun W hW => ?_⟩
  subst hW; refine (Tryd.internal_strconv_small n h W).mono ?_; rintro e W' ⟨rfl, rfl⟩; exact ⟨_, rfl, ⟨rfl, rfl⟩, Rest.refl _⟩
theorem Zcqa {H : Heap} {n : Nat} (h1 : 1 <= n) (h : n < 18446744073709551616) (hg : Zkh H) : FnW Tryd.prog Zbsk ⟨[.int .u64 (n : Int)]⟩ H fun v H' => v = .int .i64 (Lib.nDigits n) ∧ H' = H := by
  refine ⟨⟨_, Tryd.func72, by kernel_rfl, by kernel_rfl⟩, fun W hW => ?_⟩
  subst hW; refine (Tryd.internal_strconv_numDigits n h1 h W (Zchv hg)).mono ?_; rintro e W' ⟨rfl, rfl⟩; exact ⟨_, rfl, ⟨rfl, rfl⟩, Rest.refl _⟩
theorem Zcbs {H : Heap} {m u cap : Nat} {T : TypeId} (hu64 : u < 18446744073709551616) (hb : Blk H m T ⟨List.replicate 24 (.int .u8 0)⟩) :
    FnW Tryd.prog Zbnd ⟨[.slice (some ⟨m, 0, none⟩) (Lib.nDigits u) cap, .int .u64 (u : Int)]⟩ H fun v H' => v = .tuple ⟨[]⟩ ∧ ∃ cs, Blk H' m T cs ∧ (∀ (j : Nat) (x : UInt8), (Lib.decDigits u)[j]? = some x -> cs[j]? = some (.int .u8 (x.toNat : Int))) ∧ ∀ x, x ≠ m -> H' x = H x := by
  refine ⟨⟨_, Tryd.func73, by kernel_rfl, by kernel_rfl⟩, fun w hw => ?_⟩
  subst hw; have h20 := nD20 u hu64; have hs : (Array.replicate (Lib.nDigits u) (0 : UInt8)).size = Lib.nDigits u := Array.size_replicate; have hcell : w.heap[m]? = some (.cells ⟨List.replicate 24 (.int .u8 0)⟩ T (0, 0)) := hb; have hlt := (Array.getElem?_eq_some_iff.1 hcell).1; have main := Tryd.internal_strconv_formatBase10 m 0 cap u (Array.replicate (Lib.nDigits u) 0) w (fun j hj => by
    rw [hs] at hj; refine ⟨?_, ?_⟩
    . show (hp w).cell ⟨m, 0 + j, none⟩ = _; rw [hb.cell]; rw [List.getElem?_toArray, Nat.zero_add, List.getElem?_replicate, if_pos (by omega)]
      simp [hj]
    . show (hp w).frozen ⟨m, 0 + j, none⟩ = false; exact Zrq hb) (by rw [hs]; exact Lib.lt_pow_nDigits u) hu64 (by rw [hs]; omega)
  rw [hs] at main; refine main.mono ?_; rintro e w' ⟨rfl, n, v', dk, rfl, hF⟩; have hheap : ∀ x, ((Go.Sort.putRow (fun (b : UInt8) => Value.int .u8 (b.toNat : Int)) w m 0 dk).drewN n).heap[x]? = if x = m then some (.cells (Go.Sort.putCells (fun (b : UInt8) => Value.int .u8 (b.toNat : Int)) 0 dk ⟨List.replicate 24 (.int .u8 0)⟩) T (0, 0)) else w.heap[x]? := by intro x; rw [World.heap_drewN]; show (w.heap.modify m _)[x]? = _; rw [Array.getElem?_modify]; by_cases e : m = x; subst e; rw [if_pos rfl, if_pos rfl, hcell]; rfl; rw [if_neg e, if_neg (fun h => e h.symm)]
  refine ⟨_, rfl, ⟨rfl, Go.Sort.putCells (fun (b : UInt8) => Value.int .u8 (b.toNat : Int)) 0 dk ⟨List.replicate 24 (.int .u8 0)⟩, ?_, fun j x hj => ?_, fun x hx => ?_⟩, ?_⟩; exact (hheap m).trans (if_pos rfl)
  . have hlen : (Lib.decDigits u).length = Lib.nDigits u := Lib.decDigits_length u; have hj2 : j < (Lib.decDigits u).length := (List.getElem?_eq_some_iff.1 hj).1; have hd := Lib.row_is_numeral hF j hj2; have hx : (Lib.decDigits u)[j] = x := (List.getElem?_eq_some_iff.1 hj).2; have hsz := hF.size; simp only [Go.Sort.putCells, Array.getElem?_mapIdx, List.getElem?_toArray, Nat.zero_le, true_and, Nat.zero_add, Nat.sub_zero, List.getElem?_replicate]; rw [if_pos (by omega), Option.map_some, ← hx, hd]
    rw [if_pos (by omega), getElem!_pos dk j (by omega)]
    try simp
    try omega
  exact (hheap x).trans (if_neg hx)
  . refine ⟨rfl, rfl, rfl, fun b ds hb' => ?_, ?_⟩
    . have hbm : b ≠ m := fun e => by subst e; rw [hcell] at hb'; cases hb'
      rw [hheap, if_neg hbm]; exact hb'
    rw [World.heap_drewN]; show w.heap.size <= (w.heap.modify m _).size; simp
theorem Zcse {H : Heap} {u : Nat} (hu : u < 18446744073709551616) (hg : Zkh H) : FnW Tryd.prog Zkc ⟨[.int .u64 (u : Int), .int .i64 10]⟩ H fun v H' => v = .string (bstr (Lib.decDigits u)) ∧ Keep Nil H H' := by
  refine Zcqb _ _ ?_; unfold Zbfw; refine FnW.mono (Zcgb (R := fun v H' => v = .string (bstr (Lib.decDigits u)) ∧ Keep Nil H H') _ _ ?_) ?_
  . unfold Zbhi; refine ifT rfl (IfB.intro (fun h => ?_) fun h => ?_)
    . have h : u < 100 := by have := of_decide_eq_true h; omega
      rw [Zg (by omega) (by omega)]
      refine (Zcve h).mono ?_; rintro v H1 ⟨rfl, rfl⟩; exact ⟨_, rfl, fun H2 hs => ⟨rfl, Zdx (Keep.refl _ _) hs⟩⟩
    . have h : ¬ u < 100 := by have := of_decide_eq_false h; omega
      have h20 := nD20 u hu; refine NewW.intro fun m hm => ?_; have k1 : Keep Nil H (H.upd m (.cells ⟨List.replicate 24 (.int .u8 0)⟩ Zln)) := (Keep.refl _ _).new hm; have b1 : Blk (H.upd m (.cells ⟨List.replicate 24 (.int .u8 0)⟩ Zln)) m Zln ⟨List.replicate 24 (.int .u8 0)⟩ := Blk.upd_eq; show FnW _ _ _ (H.upd m (.cells ⟨List.replicate 24 (.int .u8 0)⟩ Zln)) _; generalize H.upd m (.cells ⟨List.replicate 24 (.int .u8 0)⟩ Zln) = H1 at k1 b1 ⊢; refine (Zcqa (by omega) hu (hg.keep k1)).mono ?_
      rintro v H2 ⟨rfl, rfl⟩; refine ⟨_, rfl, by omega, by omega, ?_⟩
      rw [Int.toNat_natCast]; refine (Zcbs hu b1).mono ?_; rintro v H3 ⟨rfl, cs, hb3, hc, ho⟩; refine ⟨rfl, by omega, by omega, ?_⟩
      rw [Int.toNat_natCast]; have k3 : Keep Nil H H3 := k1.then (S' := fun x => x = m) ⟨fun x hx _ => ho x hx, fun x hx => by
        by_cases e : x = m; subst e; exact hb3.some
        . rw [ho x e]; exact hx⟩ fun x hx => .inr (by subst hx; exact hm)
      refine StrW.intro (e := Zja) (bs := Lib.decDigits u) (by kernel_rfl) (by kernel_rfl) (by kernel_rfl) (Reads.blk hb3 (by rw [List.length_map, Lib.decDigits_length]) fun j hj => ?_) ⟨_, rfl, fun H2 hs => ⟨rfl, Zdx k3 hs⟩⟩
      have hj2 : j < (Lib.decDigits u).length := by rw [Lib.decDigits_length]; exact hj
      rw [Nat.zero_add, hc j _ (List.getElem?_eq_getElem hj2), List.getElem?_map, List.getElem?_eq_getElem hj2]; rfl
  rintro v H1 ⟨rfl, hk⟩; exact ⟨_, rfl, fun H2 hs => ⟨rfl, Zdx hk hs⟩⟩
abbrev Zul : List Pk := [Pk.int .u64, Pk.int .i64]
abbrev Zyf : List Pk := [Pk.str]
def Zty (n base : Int) (K : List UInt8 -> Prop) : Prop := base = 10 ∧ K (Lib.decDigits n.toNat)
theorem Zcsa {u : Nat} (h : u < 18446744073709551616) : (Lib.decDigits u).length <= 20 := by rw [Lib.decDigits_length]; exact nD20 u h
theorem Zcpz : FnQ Tryd.prog Zkc Zul Zyf (fun x K => Zty x.1 x.2.1 (fun r0 => K (r0, ()))) := by
  refine Zpl rfl (fun _ => rfl) fun x K hx H Z vs hsl hz hlay hlo => ?_; obtain ⟨n, base, u⟩ := x; obtain ⟨hb, hk⟩ := hx; obtain rfl : base = (10 : Int) := hb; change Int at n; have hsl' : SimL (gZ Z) H 0 [.int .u64 n, .int .i64 10] vs := hsl
  match vs, hsl' with
  | [v0, v1], hsl' =>
  simp only [SimL, SimV, and_true] at hsl'; obtain ⟨⟨rfl, hr⟩, rfl, _⟩ := hsl'; simp only [InR, loI, hiI] at hr; obtain ⟨m, rfl⟩ : ∃ m : Nat, n = m := ⟨n.toNat, by omega⟩
  have hm : m < 18446744073709551616 := by omega
  refine (Zcse hm (Zcpm hlo)).mono fun v H' hv => ?_; obtain ⟨rfl, kk⟩ := hv; refine ⟨kk, (Lib.decDigits m, ()), fun _ => False, hk, Zjt.none, ?_⟩; simp only [pksA, pkA, outA, SimV]; have := Zcsa hm; exact ⟨trivial, by unfold Zi; omega⟩
noncomputable def Zbfa : Ct := Zcy Zul Zyf (fun x K => Zty x.1 x.2.1 (fun r0 => K (r0, ())))
theorem Zbxf : Zz Tryd.prog Zkc Zbfa := Zdk Zcpz
abbrev Zuf : List Pk := [Pk.str, Pk.int .i64, Pk.int .i64]
abbrev Zur : List Pk := [Pk.int .u64, Pk.err]
def puR (s : List UInt8) : Int × Bool := match Lib.parseUintB 64 s with
  | .ok v => ((v : Int), true)
  | Lib.NumEnd.syntax => (0, false)
  | .range => (18446744073709551615, false)
def Zzk (s : List UInt8) (base bits : Int) (K : Int -> Bool -> Prop) : Prop := base = 10 ∧ bits = 64 ∧ s.length <= 281474976710656 ∧ K (puR s).1 (puR s).2
theorem Zblm : ∀ (l : List UInt8) (acc u : Nat), acc < 18446744073709551616 -> Lib.parseUintM (2 ^ 64 - 1) acc l = .ok u -> u < 18446744073709551616 := by
  intro l; induction l with
  | nil => intro acc u h1 h2; simp only [Lib.parseUintM] at h2; cases h2; exact h1
  | cons c r ih =>
    intro acc u h1 h2; unfold Lib.parseUintM at h2
    repeat' split at h2
    all_goals first | (cases h2; done) | exact ih _ u (by omega) h2
theorem Zcla : FnQ Tryd.prog Zbbn Zuf Zur (fun x K => Zzk x.1 x.2.1 x.2.2.1 (fun r0 r1 => K (r0, r1, ()))) := by
  refine Zbmh rfl ⟨_, Tryd.func62, by kernel_rfl, by kernel_rfl⟩ fun x K hx W g vs hz hs hl => ?_
  obtain ⟨s, base, bits, u⟩ := x; change List UInt8 at s; obtain ⟨hb, hbt, h1, hk⟩ := hx; obtain rfl : base = (10 : Int) := hb; obtain rfl : bits = (64 : Int) := hbt; change s.length <= 281474976710656 at h1; have hs' : SimL g (hp W) _ [.str s, .int .i64 10, .int .i64 64] vs := hs
  match vs, hs' with
  | [v0, v1, v2], hs' =>
  simp only [SimL, SimV, and_true] at hs'; obtain ⟨⟨rfl, _⟩, ⟨rfl, _⟩, rfl, _⟩ := hs'; have hsz : (bstr s).size = s.length := by simp [bstr, ByteArray.size]
  have hdt : (bstr s).data.toList = s := by simp [bstr]
  have fin : ∀ (n : Int) (ok : Bool) (ev : Value) (W' : World), puR s = (n, ok) -> InR .u64 n -> (ok = true -> ev = .nilIface) -> (ok = false -> ∃ t u, ev = .iface t u) -> Keep Nil (hp W) (hp W') -> Sh.Rest W W' ->
      ∃ y v, (Ending.returned (.tuple #[.int .u64 n, ev])) = .returned v ∧ SimV g (hp W') (pksR Zuf (s, (10 : Int), (64 : Int), u)).length (outA (pksA 0 Zur y)) v ∧ K y ∧ Keep Nil (hp W) (hp W') ∧ Sh.Rest W W' := by
    intro n ok ev W' ha hn h2 h3 hkp hr; rw [ha] at hk; refine ⟨(n, ok, ()), _, rfl, ?_, hk, hkp, hr⟩; simp only [pksA, pkA, outA, SimV]; refine ⟨[.int .u64 n, ev], rfl, ?_⟩; simp only [SimL, SimV]; refine ⟨⟨trivial, hn⟩, ?_, trivial⟩; cases ok with
    | true => exact h2 rfl
    | false => exact h3 rfl
  cases ha : Lib.parseUintB 64 s with
  | ok v =>
    have hv : v < 18446744073709551616 := by unfold Lib.parseUintB at ha; split at ha; cases ha; exact Zblm _ _ _ (by omega) ha
    refine (Tryd.strconv_ParseUint_10_at64_ok (bstr s) (by rw [hsz]; omega) v (by rw [hdt]; exact ha) W).mono fun e W' ⟨he, hw⟩ => ?_
    subst he; obtain ⟨hkp, hr⟩ : Keep Nil (hp W) (hp W') ∧ Sh.Rest W W' := by rcases hw with hw | hw; subst hw; exact ⟨⟨fun b _ _ => rfl, fun b h => h⟩, rest_of rfl rfl rfl fun _ _ h => h⟩; subst hw; exact Zxc (Lib.bytesWorld_below _ _ _)
    exact fin v true _ W' (by simp only [puR, ha]) ⟨by simp only [loI]; omega, by simp only [hiI]; omega⟩ (fun _ => rfl) (fun h => by cases h) hkp hr
  | range =>
    obtain ⟨te, pe, hc⟩ := Zcqj hl; refine (Tryd.strconv_ParseUint_10_at64_range (bstr s) (by rw [hsz]; exact h1) (by rw [hdt]; exact ha) _ W hc (Or.inr ⟨_, _, rfl⟩)).mono fun e W' ⟨N, he, _, _, hb⟩ => ?_
    subst he; obtain ⟨hkp, hr⟩ := Zxc hb; exact fin 18446744073709551615 false _ W' (by simp only [puR, ha]) ⟨by simp [loI], by simp [hiI]⟩ (fun h => by cases h) (fun _ => ⟨_, _, rfl⟩) hkp hr
  | _ =>
    obtain ⟨te, pe, hc⟩ := Zcbu hl; refine (Tryd.strconv_ParseUint_10_at64_syntax (bstr s) (by rw [hsz]; exact h1) (by rw [hdt]; exact ha) _ W hc (Or.inr ⟨_, _, rfl⟩)).mono fun e W' ⟨N, he, _, _, hb⟩ => ?_
    subst he; obtain ⟨hkp, hr⟩ := Zxc hb; exact fin 0 false _ W' (by simp only [puR, ha]) ⟨by simp [loI], by simp [hiI]⟩ (fun h => by cases h) (fun _ => ⟨_, _, rfl⟩) hkp hr
noncomputable def Zbrz : Ct := ctRd Zuf Zur (fun x K => Zzk x.1 x.2.1 x.2.2.1 (fun r0 r1 => K (r0, r1, ())))
theorem Zcjs : Zz Tryd.prog Zbbn Zbrz := Zcv Zcla
end Go.Proofs.YtflfamhboalgiaaDoor
end
section
namespace Go.Proofs.YtflfamhboalgiaaDoor
open Go.Sh
abbrev Zxb : List Pk := [Pk.lst [Kd.str], Pk.str]
abbrev Zvj : List Pk := [Pk.str]
def Zxv (xs : List (List UInt8)) (sep : List UInt8) (K : List UInt8 -> Prop) : Prop := xs.length <= 140737488355328 ∧ (Lib.join xs sep).length <= 140737488355328 ∧ K (Lib.join xs sep)
theorem Zccr {W : World} {g : Gh} {xs : List (List UInt8)} {sep : List UInt8} {v : Value} (hv : Zb g.Z (hp W) (.lst [.str]) xs v) (h1 : xs.length <= 140737488355328) (h2 : (Lib.join xs sep).length <= 140737488355328) :
    Calls Tryd.prog Zwk ⟨[v, .string (bstr sep)]⟩ W fun e W' => e = .returned (.string (bstr (Lib.join xs sep))) ∧ Go.RowKit.Below W.heap.size W W' := by
  simp only [Zb] at hv; obtain ⟨a, n, c, rfl, hn, hnc, hcm, hc⟩ := hv; have hn : xs.length = n := hn; rcases Nat.eq_zero_or_pos n with h0 | h0; subst h0; have hnil : xs = [] := List.eq_nil_of_length_eq_zero hn; refine (Tryd.strings_Join_none a c (bstr sep) W).mono fun e W' ⟨he, hw⟩ => ⟨?_, ?_⟩; rw [he, hnil]; rfl; subst hw; exact .refl _ _
  . obtain ⟨b, o, rfl, hzb, cs, T, fr, hb, hcs⟩ := hc h0; have hbs : b < W.heap.size := by
      rcases Nat.lt_or_ge b W.heap.size with h | h; exact h
      . have : hp W b = none := by simp [hp, h]
        rw [this] at hb; cases hb
    have hmap : (xs.map bstr).map (·.data.toList) = xs := by
      rw [List.map_map]
      conv => rhs; rw [← List.map_id xs]
      exact List.map_congr_left fun s _ => by simp [bstr]
    have := Tryd.strings_Join b o c (xs.map bstr) (bstr sep) W (fun j s hj => by
      rw [List.getElem?_map] at hj; cases hx : xs[j]? with
      | none => rw [hx] at hj; cases hj
      | some t =>
        rw [hx] at hj; cases hj; have h3 := hcs j t hx; simp only [Zc, Zb] at h3; obtain ⟨⟨v, h4, h5, _⟩, _⟩ := h3; simp only [List.length_cons, List.length_nil, Nat.zero_add, Nat.mul_one, Nat.add_zero] at h4; have hb' : W.heap[b]? = some (.cells cs T fr) := hb; simp only [World.cell?, hb', Option.isSome_none, Bool.false_eq_true, if_false]; rw [h4, h5]; rfl) hbs (by simpa using h1) (by simp; omega) (by
        rw [hmap]; exact h2)
    rw [hmap] at this; have e1 : (xs.map bstr).length = n := by simp [hn]
    rw [e1] at this; exact this
theorem Zcdx : FnQ Tryd.prog Zwk Zxb Zvj (fun x K => Zxv x.1 x.2.1 (fun r0 => K (r0, ()))) := by
  refine Zbmh rfl ⟨_, Tryd.func33, by kernel_rfl, by kernel_rfl⟩ fun x K hx W g vs hz hs hl => ?_
  simp only [pksA, pkA, Zca] at hs; cases vs with
  | nil => simp only [SimL] at hs
  | cons v vs =>
  cases vs with
  | nil => simp only [SimL] at hs; exact hs.2.elim
  | cons u vs =>
  cases vs with
  | cons => simp only [SimL] at hs; exact hs.2.2.elim
  | nil =>
    simp only [SimL, SimV] at hs; obtain ⟨hv, ⟨rfl, _⟩, _⟩ := hs; obtain ⟨h1, h2, hk⟩ := hx; refine (Zccr hv h1 h2).mono fun e W' ⟨he, hb⟩ => ?_; obtain ⟨hkp, hr⟩ := Zxc hb; refine ⟨(Lib.join x.1 x.2.1, ()), _, he, ?_, hk, hkp, hr⟩; simp only [pksA, pkA, outA, SimV]; exact ⟨trivial, by unfold Zi; omega⟩
noncomputable def Zboa : Ct := ctRd Zxb Zvj (fun x K => Zxv x.1 x.2.1 (fun r0 => K (r0, ())))
theorem Zcpn : Zz Tryd.prog Zwk Zboa := Zcv Zcdx
end Go.Proofs.YtflfamhboalgiaaDoor
end
