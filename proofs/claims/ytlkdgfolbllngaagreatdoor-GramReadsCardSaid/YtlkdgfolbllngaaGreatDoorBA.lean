/-
  NUMBERS BY NAME:printed by a program of ours over this translation.
-/
import Derived.Test.YtlkdgfolbllngaaGreatDoorED
import Derived.Test.YtlkdgfolbllngaaGreatDoorRows
import Derived.Shelf.Strings.Builder1
import Derived.Shelf.Strings.Builder2
import Derived.Shelf.Strings.OnBuilder
import Derived.Shelf.Strings.Trim
import Derived.Shelf.Small.Utf8
import Derived.Shelf.Small.Strs
import Derived.Shelf.Strings.BuilderF
import Derived.Shelf.Strings.BuilderK
import Derived.Shelf.Utf8.RuneCount
import Derived.Shelf.Strconv.Atoi
import Derived.Shelf.Strconv.Itoa0
import Derived.Shelf.Strconv.Itoa1
import Derived.Shelf.LaysM
import Derived.Shelf.Strconv.Itoa2
import Derived.Shelf.Strconv.Itoa3
import Derived.Shelf.Strconv.AtoiErrFast
import Derived.Shelf.Strconv.ParseIntEmpty
import Derived.Shelf.Strconv.AtoiFail
import Derived.Shelf.Strconv.Clone
import Derived.Shelf.Strconv.SyntaxError
import Derived.Shelf.LaysC
import Derived.Shelf.Strconv.ToError
import Derived.Shelf.Strconv.AtoiErr
import Derived.Shelf.Strconv.Lower
import Derived.Shelf.Strconv.ParseUint10
import Derived.Shelf.Strconv.ParseUint10Empty
import Derived.Shelf.Strconv.ParseUint10Any
import Derived.Shelf.Strconv.ParseInt10
import Derived.Shelf.Strconv.AtoiLong
import Derived.Shelf.Strconv.AtoiInnerAll
import Derived.Shelf.Strconv.RangeError
import Derived.Shelf.Strconv.ToErrorRange
import Derived.Shelf.Strconv.AtoiAll
import Derived.Shelf.Strconv.ErrVarAll
import Derived.Shelf.Strings.Search1
import Derived.Shelf.Strings.Search2
import Derived.Shelf.Strings.Search3
import Derived.Shelf.Strings.Cut
import Derived.Shelf.Strings.Count
import Derived.Shelf.Strings.Shaped
import Derived.Shelf.Strings.Split
import Derived.Shelf.Strings.SplitShaped
import Derived.Shelf.Unicode.Decode
import Derived.Shelf.Strings.Runes
import Derived.Shelf.Strings.RuneCount
import Derived.Shelf.Strings.AsciiSet
import Derived.Shelf.Strings.Explode
import Derived.Shelf.Unicode.DecodeSlow
import Derived.Shelf.Unicode.DecodeAny
import Derived.Shelf.Unicode.DecodeLast
import Derived.Test.YtlkdgfolbllngaaGreatDoorProg
import Derived.Shelf.Strings.SlTrimAscii
set_option linter.all false
section
set_option maxRecDepth 100000
set_option maxHeartbeats 4000000
namespace Go.Proofs.YtlkdgfolbllngaaGreatDoor
open Go.Sh
def Zbs (fn:Func):Code:=match fn.body with | some c=>c | none=> .skip
abbrev Zls:TypeId:=3
abbrev Zbgv:TypeId:=4
abbrev Zcv:TypeId:=9
abbrev Zpb:TypeId:=24
abbrev Zlu:TypeId:=25
abbrev Zlt:TypeId:=26
abbrev Zcj:TypeId:=28
abbrev Zh:TypeId:=45
abbrev Zg:TypeId:=51
abbrev Zbue:TypeId:=53
abbrev Zth:TypeId:=55
abbrev Ziz:TypeId:=56
abbrev Zek:TypeId:=58
abbrev Zv:TypeId:=61
abbrev Zgq:TypeId:=95
abbrev Zj:TypeId:=97
abbrev Zz:TypeId:=99
abbrev Zbgw:TypeId:=109
abbrev Zii:TypeId:=116
abbrev Zpc:TypeId:=117
abbrev Zlv:TypeId:=135
abbrev Zbug:TypeId:=162
abbrev Zbud:TypeId:=182
abbrev Zbuf:TypeId:=212
abbrev Zbgx:TypeId:=214
abbrev Zbbk:FuncId:=3
abbrev Zbbs:FuncId:=6
abbrev Zuq:FuncId:=7
abbrev Zbbg:FuncId:=8
abbrev Zbbd:FuncId:=9
abbrev Zbbt:FuncId:=10
abbrev Zbbb:FuncId:=13
abbrev Zty:FuncId:=14
abbrev Zbbh:FuncId:=15
abbrev Zbbq:FuncId:=16
abbrev Zuf:FuncId:=17
abbrev Zbbi:FuncId:=18
abbrev Zmi:FuncId:=19
abbrev Zpr:FuncId:=22
abbrev Zbbp:FuncId:=28
abbrev Zbwi:FuncId:=29
abbrev Zbbn:FuncId:=30
abbrev Zus:FuncId:=31
abbrev Zbbo:FuncId:=32
abbrev Zut:FuncId:=33
abbrev Zbbu:FuncId:=34
abbrev Zbje:FuncId:=35
abbrev Zbjd:FuncId:=37
abbrev Zqg:FuncId:=38
abbrev Zbbl:FuncId:=39
abbrev Ztu:FuncId:=40
abbrev Ztw:FuncId:=41
abbrev Zuh:FuncId:=42
abbrev Ztz:FuncId:=43
abbrev Zkr:FuncId:=44
abbrev Zil:FuncId:=45
abbrev Zgv:FuncId:=46
abbrev Zpx:FuncId:=47
abbrev Zbbf:FuncId:=48
abbrev Zdl:FuncId:=49
abbrev Zun:FuncId:=50
abbrev Zup:FuncId:=51
abbrev Zuk:FuncId:=52
abbrev Zbh:FuncId:=53
abbrev Zco:FuncId:=54
abbrev Zpw:FuncId:=55
abbrev Zbbe:FuncId:=56
abbrev Zgu:FuncId:=57
abbrev Zpy:FuncId:=58
abbrev Zbjb:FuncId:=69
abbrev Zbja:FuncId:=73
abbrev Zuu:FuncId:=74
abbrev Zbwj:FuncId:=75
abbrev Zpt:FuncId:=77
abbrev Zbba:FuncId:=78
abbrev Zps:FuncId:=79
abbrev Zbaz:FuncId:=80
abbrev Zuo:FuncId:=81
abbrev Zum:FuncId:=82
abbrev Zuc:FuncId:=83
abbrev Zbjc:FuncId:=84
abbrev Zfb:FuncId:=85
abbrev Zqa:FuncId:=86
abbrev Zmn:FuncId:=87
abbrev Zpu:FuncId:=88
abbrev Zpv:FuncId:=89
abbrev Zuv:FuncId:=90
abbrev Zmf:FuncId:=91
abbrev Zua:FuncId:=92
abbrev Zug:FuncId:=93
abbrev Zmh:FuncId:=94
abbrev Zqf:FuncId:=95
abbrev Zqb:FuncId:=96
abbrev Zmg:FuncId:=97
abbrev Zpq:FuncId:=116
abbrev Ztv:FuncId:=118
abbrev Ztx:FuncId:=119
abbrev Zub:FuncId:=120
abbrev Zui:FuncId:=121
abbrev Zue:FuncId:=122
abbrev Zmm:FuncId:=123
abbrev Zqd:FuncId:=124
abbrev Zuj:FuncId:=125
abbrev Zjh:FuncId:=126
abbrev Zqe:FuncId:=127
abbrev Zul:FuncId:=147
abbrev Zur:FuncId:=148
abbrev Zbbr:FuncId:=149
abbrev Zpz:FuncId:=150
abbrev Zud:FuncId:=151
abbrev Zmj:FuncId:=152
abbrev Zml:FuncId:=153
abbrev Zmk:FuncId:=174
abbrev Zji:FuncId:=175
abbrev Zbbj:FuncId:=185
abbrev Zbbc:FuncId:=186
abbrev Zbbm:FuncId:=189
abbrev Zqc:FuncId:=190
abbrev Zjk:Nat:=0
abbrev Zku:Nat:=1
abbrev Zms:Nat:=4
abbrev Zmr:Nat:=5
theorem Zo {f:FuncId} {fn:Func} (i:Tryz.prog.funcs[f]? =some fn) (plan:Plan) {args:List Value} {H:Heap} {R:Value->Heap->Prop} {p:Prop}
    (o:(Nat.ble args.length fn.ntmps&&(fn.body.isSome&&(!(fn.name== "runtime.NumGoroutine")&&(codeOk Tryz.prog fn.ntmps plan none (Zbs fn)&&fn.results.toList.all (fun r=>match r with | .tmp t=>Nat.blt t fn.ntmps | .cell t _=>Nat.blt t fn.ntmps)))))=true)
    (e:p=Zc Tryz.prog plan (Zbs fn) (env0 args) H (RetW Tryz.prog fn.results.toList fun v H'=>∀H'',Shut H H' H''->R v H'')) (h:p):FnW Tryz.prog f ⟨args⟩ H R:=by
  have x:=Bool.and_eq_true_iff.mp o;have y:=Bool.and_eq_true_iff.mp x.2;have z:=Bool.and_eq_true_iff.mp y.2;have w:=Bool.and_eq_true_iff.mp z.2;refine FnW.of_code (plan:=plan) (c:=Zbs fn) ⟨i,?_,by cases hq:(fn.name== "runtime.NumGoroutine")<;>simp_all,by kernel_rfl,w.1,w.2⟩ x.1 (e▸h)
  have hb:=y.1;unfold Zbs;cases hq:fn.body with
  | none=>rw [hq] at hb;cases hb
  | some c=>rfl
end Go.Proofs.YtlkdgfolbllngaaGreatDoor
end
section
namespace Go.Proofs
open Go.Shelf
def Tryz.lays160_ren:Go.Shelf.Ren:=⟨fun | 160=>78 | 232=>110 | 231=>109 | 227=>111 | 234=>113 | 233=>112 | 236=>115 | 235=>114 | 228=>138 | 271=>141 | 151=>140 | 197=>139 | 120=>163 | 152=>162 | 260=>161 | 137=>41 | 119=>178 | 224=>170 | 225=>169 | 217=>76 | 266=>108 | n=>n,fun | 9=>9 | 4=>4 | 3=>3 | 5=>5 | 117=>149 | 116=>148 | 0=>0 | 124=>152 | 21=>21 | 105=>173 | 46=>158 | 119=>197 | 139=>200 | 138=>199 | n=>n,fun | 3=>2 | 4=>3 | n=>n⟩
theorem Tryz.lays160:Go.Proofs.Lays.n160 Tryz.prog Tryz.lays160_ren:={
  mixed:=by kernel_rfl
  f119:=Tryz.func178.trans (congrArg some (by kernel_rfl))
  f120:=Tryz.func163.trans (congrArg some (by kernel_rfl))
  f137:=Tryz.func41.trans (congrArg some (by kernel_rfl))
  f151:=Tryz.func140.trans (congrArg some (by kernel_rfl))
  f152:=Tryz.func162.trans (congrArg some (by kernel_rfl))
  f160:=Tryz.func78.trans (congrArg some (by kernel_rfl))
  f197:=Tryz.func139.trans (congrArg some (by kernel_rfl))
  f217:=Tryz.func76.trans (congrArg some (by kernel_rfl))
  f224:=Tryz.func170.trans (congrArg some (by kernel_rfl))
  f225:=Tryz.func169.trans (congrArg some (by kernel_rfl))
  f227:=Tryz.func111.trans (congrArg some (by kernel_rfl))
  f228:=Tryz.func138.trans (congrArg some (by kernel_rfl))
  f231:=Tryz.func109.trans (congrArg some (by kernel_rfl))
  f232:=Tryz.func110.trans (congrArg some (by kernel_rfl))
  f233:=Tryz.func112.trans (congrArg some (by kernel_rfl))
  f234:=Tryz.func113.trans (congrArg some (by kernel_rfl))
  f235:=Tryz.func114.trans (congrArg some (by kernel_rfl))
  f236:=Tryz.func115.trans (congrArg some (by kernel_rfl))
  f260:=Tryz.func161.trans (congrArg some (by kernel_rfl))
  f266:=Tryz.func108.trans (congrArg some (by kernel_rfl))
  f271:=Tryz.func141.trans (congrArg some (by kernel_rfl))
  t0:=Tryz.underlying0
  a0:=Tryz.isAgg0
  z0:=Tryz.sizeOf0
  v0:=Tryz.zeroValue0
  t3:=Tryz.underlying3
  a3:=Tryz.isAgg3
  z3:=Tryz.sizeOf3
  v3:=Tryz.zeroValue3
  t4:=Tryz.underlying4
  a4:=Tryz.isAgg4
  z4:=Tryz.sizeOf4
  v4:=Tryz.zeroValue4
  t5:=Tryz.underlying5
  a5:=Tryz.isAgg5
  z5:=Tryz.sizeOf5
  v5:=Tryz.zeroValue5
  t9:=Tryz.underlying9
  a9:=Tryz.isAgg9
  z9:=Tryz.sizeOf9
  v9:=Tryz.zeroValue9
  t21:=Tryz.underlying21
  a21:=Tryz.isAgg21
  z21:=Tryz.sizeOf21
  v21:=Tryz.zeroValue21
  t46:=Tryz.underlying158
  a46:=Tryz.isAgg158
  z46:=Tryz.sizeOf158
  v46:=Tryz.zeroValue158
  t105:=Tryz.underlying173
  a105:=Tryz.isAgg173
  z105:=Tryz.sizeOf173
  v105:=Tryz.zeroValue173
  t116:=Tryz.underlying148
  a116:=Tryz.isAgg148
  z116:=Tryz.sizeOf148
  t117:=Tryz.underlying149
  a117:=Tryz.isAgg149
  z117:=Tryz.sizeOf149
  v117:=Tryz.zeroValue149
  t119:=Tryz.underlying197
  a119:=Tryz.isAgg197
  z119:=Tryz.sizeOf197
  t124:=Tryz.underlying152
  a124:=Tryz.isAgg152
  z124:=Tryz.sizeOf152
  v124:=Tryz.zeroValue152
  t138:=Tryz.underlying199
  a138:=Tryz.isAgg199
  z138:=Tryz.sizeOf199
  v138:=Tryz.zeroValue199
  t139:=Tryz.underlying200
  a139:=Tryz.isAgg200
  z139:=Tryz.sizeOf200
  v139:=Tryz.zeroValue200
  g3:=by kernel_rfl
  g4:=by kernel_rfl }
def Tryz.lays137_ren:Go.Shelf.Ren:=⟨fun | 137=>41 | 217=>76 | 266=>108 | n=>n,fun | 9=>9 | 5=>5 | 3=>3 | n=>n,fun | n=>n⟩
theorem Tryz.lays137:Go.Proofs.Lays.n137 Tryz.prog Tryz.lays137_ren:={
  mixed:=by kernel_rfl
  f137:=Tryz.func41.trans (congrArg some (by kernel_rfl))
  f217:=Tryz.func76.trans (congrArg some (by kernel_rfl))
  f266:=Tryz.func108.trans (congrArg some (by kernel_rfl))
  t3:=Tryz.underlying3
  a3:=Tryz.isAgg3
  z3:=Tryz.sizeOf3
  v3:=Tryz.zeroValue3
  t5:=Tryz.underlying5
  a5:=Tryz.isAgg5
  z5:=Tryz.sizeOf5
  v5:=Tryz.zeroValue5
  t9:=Tryz.underlying9
  a9:=Tryz.isAgg9
  z9:=Tryz.sizeOf9
  v9:=Tryz.zeroValue9 }
open Go.RowKit in
theorem Tryz.strings_IndexByte (s:ByteArray) (c:Int) (w:World):
    Calls Tryz.prog 41 #[.string s,.int .u8 c] w fun e w'=>e= .returned (.int .i64 (Lib.indexByte s.data.toList c.toNat.toUInt8))∧w'=w:=Any.strings_IndexByte Tryz.lays137 s c w
def Tryz.laysM171_ren:Go.Shelf.Ren:=⟨fun | 171=>22 | 243=>60 | 246=>98 | 283=>128 | 284=>129 | 285=>130 | 286=>131 | 129=>155 | 317=>154 | 318=>156 | 319=>157 | 320=>158 | 337=>176 | 338=>177 | n=>n,fun | 3=>3 | 9=>9 | 2=>2 | 4=>4 | 171=>161 | 0=>0 | 53=>162 | 37=>105 | 5=>5 | 173=>165 | 212=>182 | 51=>23 | 20=>20 | 213=>183 | 46=>158 | 232=>209 | 233=>210 | n=>n,fun | 17=>1 | 18=>6 | 19=>7 | n=>n⟩
theorem Tryz.laysM171:Go.Proofs.LaysM.n171 Tryz.prog Tryz.laysM171_ren:={
  mixed:=by kernel_rfl
  f129:=Tryz.func155.trans (congrArg some (by kernel_rfl))
  f171:=Tryz.func22.trans (congrArg some (by kernel_rfl))
  f243:=Tryz.func60.trans (congrArg some (by kernel_rfl))
  f246:=Tryz.func98.trans (congrArg some (by kernel_rfl))
  f283:=Tryz.func128.trans (congrArg some (by kernel_rfl))
  f284:=Tryz.func129.trans (congrArg some (by kernel_rfl))
  f285:=Tryz.func130.trans (congrArg some (by kernel_rfl))
  f286:=Tryz.func131.trans (congrArg some (by kernel_rfl))
  f317:=Tryz.func154.trans (congrArg some (by kernel_rfl))
  f318:=Tryz.func156.trans (congrArg some (by kernel_rfl))
  f319:=Tryz.func157.trans (congrArg some (by kernel_rfl))
  f320:=Tryz.func158.trans (congrArg some (by kernel_rfl))
  f337:=Tryz.func176.trans (congrArg some (by kernel_rfl))
  f338:=Tryz.func177.trans (congrArg some (by kernel_rfl))
  t0:=Tryz.underlying0
  a0:=Tryz.isAgg0
  z0:=Tryz.sizeOf0
  v0:=Tryz.zeroValue0
  t2:=Tryz.underlying2
  a2:=Tryz.isAgg2
  z2:=Tryz.sizeOf2
  v2:=Tryz.zeroValue2
  t3:=Tryz.underlying3
  a3:=Tryz.isAgg3
  z3:=Tryz.sizeOf3
  v3:=Tryz.zeroValue3
  t4:=Tryz.underlying4
  a4:=Tryz.isAgg4
  z4:=Tryz.sizeOf4
  v4:=Tryz.zeroValue4
  t5:=Tryz.underlying5
  a5:=Tryz.isAgg5
  z5:=Tryz.sizeOf5
  v5:=Tryz.zeroValue5
  t9:=Tryz.underlying9
  a9:=Tryz.isAgg9
  z9:=Tryz.sizeOf9
  v9:=Tryz.zeroValue9
  t20:=Tryz.underlying20
  a20:=Tryz.isAgg20
  z20:=Tryz.sizeOf20
  v20:=Tryz.zeroValue20
  t37:=Tryz.underlying105
  a37:=Tryz.isAgg105
  z37:=Tryz.sizeOf105
  v37:=Tryz.zeroValue105
  t46:=Tryz.underlying158
  a46:=Tryz.isAgg158
  z46:=Tryz.sizeOf158
  v46:=Tryz.zeroValue158
  t51:=Tryz.underlying23
  a51:=Tryz.isAgg23
  z51:=Tryz.sizeOf23
  v51:=Tryz.zeroValue23
  t53:=Tryz.underlying162
  a53:=Tryz.isAgg162
  z53:=Tryz.sizeOf162
  v53:=Tryz.zeroValue162
  t171:=Tryz.underlying161
  a171:=Tryz.isAgg161
  z171:=Tryz.sizeOf161
  v171:=Tryz.zeroValue161
  t173:=Tryz.underlying165
  a173:=Tryz.isAgg165
  z173:=Tryz.sizeOf165
  v173:=Tryz.zeroValue165
  t212:=Tryz.underlying182
  a212:=Tryz.isAgg182
  z212:=Tryz.sizeOf182
  v212:=Tryz.zeroValue182
  t213:=Tryz.underlying183
  a213:=Tryz.isAgg183
  z213:=Tryz.sizeOf183
  t232:=Tryz.underlying209
  a232:=Tryz.isAgg209
  z232:=Tryz.sizeOf209
  v232:=Tryz.zeroValue209
  t233:=Tryz.underlying210
  a233:=Tryz.isAgg210
  z233:=Tryz.sizeOf210
  v233:=Tryz.zeroValue210
  g17:=by kernel_rfl
  g18:=by kernel_rfl
  g19:=by kernel_rfl
  i0:=by kernel_rfl
  i2:=by kernel_rfl
  i3:=by kernel_rfl
  i4:=by kernel_rfl
  i5:=by kernel_rfl
  i9:=by kernel_rfl
  i20:=by kernel_rfl
  i37:=by kernel_rfl
  i46:=by kernel_rfl
  i51:=by kernel_rfl
  i53:=by kernel_rfl
  i171:=by kernel_rfl
  i173:=by kernel_rfl
  i212:=by kernel_rfl
  i232:=by kernel_rfl
  i233:=by kernel_rfl
  m17:=by kernel_rfl
  m18:=by kernel_rfl
  m19:=by kernel_rfl }
open Go.RowKit Go.Sort Go.Lib in
theorem Tryz.strconv_Itoa (n:Int) (h0: -9223372036854775808 <= n) (h1:n <= 9223372036854775807) (w:World) (htab:Lib.TabIs Tryz.prog w "internal/strconv.uint64pow10" .u64 Lib.pow10Tab):
    Calls Tryz.prog 22 #[.int .i64 n] w fun e w'=>e= .returned (.string ⟨(Lib.itoa n).toArray⟩)∧∃k os,w'=grow (w.drewN k) os:=Any.strconv_Itoa Tryz.laysM171 n h0 h1 w htab
def Tryz.laysC172_ren:Go.Shelf.Ren:=⟨fun | 172=>116 | 244=>142 | 245=>143 | 247=>164 | 279=>165 | 280=>166 | 281=>167 | 282=>168 | 287=>179 | 316=>180 | 171=>22 | 205=>181 | 321=>187 | 322=>188 | 243=>60 | 246=>98 | 283=>128 | 284=>129 | 285=>130 | 286=>131 | 129=>155 | 317=>154 | 318=>156 | 319=>157 | 320=>158 | 337=>176 | 338=>177 | n=>n,fun | 9=>9 | 3=>3 | 75=>109 | 76=>110 | 4=>4 | 5=>5 | 167=>189 | 37=>105 | 0=>0 | 85=>190 | 2=>2 | 168=>192 | 53=>162 | 175=>202 | 46=>158 | 210=>205 | 127=>141 | 145=>214 | 143=>212 | 21=>21 | 171=>161 | 173=>165 | 212=>182 | 51=>23 | 20=>20 | 213=>183 | 232=>209 | 233=>210 | 80=>112 | n=>n,fun | 15=>4 | 16=>5 | 17=>1 | 18=>6 | 19=>7 | n=>n⟩
theorem Tryz.laysC172:Go.Proofs.LaysC.n172 Tryz.prog Tryz.laysC172_ren:={
  mixed:=by kernel_rfl
  f129:=Tryz.func155.trans (congrArg some (by kernel_rfl))
  f171:=Tryz.func22.trans (congrArg some (by kernel_rfl))
  f172:=Tryz.func116.trans (congrArg some (by kernel_rfl))
  f205:=Tryz.func181.trans (congrArg some (by kernel_rfl))
  f243:=Tryz.func60.trans (congrArg some (by kernel_rfl))
  f244:=Tryz.func142.trans (congrArg some (by kernel_rfl))
  f245:=Tryz.func143.trans (congrArg some (by kernel_rfl))
  f246:=Tryz.func98.trans (congrArg some (by kernel_rfl))
  f247:=Tryz.func164.trans (congrArg some (by kernel_rfl))
  f279:=Tryz.func165.trans (congrArg some (by kernel_rfl))
  f280:=Tryz.func166.trans (congrArg some (by kernel_rfl))
  f281:=Tryz.func167.trans (congrArg some (by kernel_rfl))
  f282:=Tryz.func168.trans (congrArg some (by kernel_rfl))
  f283:=Tryz.func128.trans (congrArg some (by kernel_rfl))
  f284:=Tryz.func129.trans (congrArg some (by kernel_rfl))
  f285:=Tryz.func130.trans (congrArg some (by kernel_rfl))
  f286:=Tryz.func131.trans (congrArg some (by kernel_rfl))
  f287:=Tryz.func179.trans (congrArg some (by kernel_rfl))
  f316:=Tryz.func180.trans (congrArg some (by kernel_rfl))
  f317:=Tryz.func154.trans (congrArg some (by kernel_rfl))
  f318:=Tryz.func156.trans (congrArg some (by kernel_rfl))
  f319:=Tryz.func157.trans (congrArg some (by kernel_rfl))
  f320:=Tryz.func158.trans (congrArg some (by kernel_rfl))
  f321:=Tryz.func187.trans (congrArg some (by kernel_rfl))
  f322:=Tryz.func188.trans (congrArg some (by kernel_rfl))
  f337:=Tryz.func176.trans (congrArg some (by kernel_rfl))
  f338:=Tryz.func177.trans (congrArg some (by kernel_rfl))
  t0:=Tryz.underlying0
  a0:=Tryz.isAgg0
  z0:=Tryz.sizeOf0
  v0:=Tryz.zeroValue0
  t2:=Tryz.underlying2
  a2:=Tryz.isAgg2
  z2:=Tryz.sizeOf2
  v2:=Tryz.zeroValue2
  t3:=Tryz.underlying3
  a3:=Tryz.isAgg3
  z3:=Tryz.sizeOf3
  v3:=Tryz.zeroValue3
  t4:=Tryz.underlying4
  a4:=Tryz.isAgg4
  z4:=Tryz.sizeOf4
  v4:=Tryz.zeroValue4
  t5:=Tryz.underlying5
  a5:=Tryz.isAgg5
  z5:=Tryz.sizeOf5
  v5:=Tryz.zeroValue5
  t9:=Tryz.underlying9
  a9:=Tryz.isAgg9
  z9:=Tryz.sizeOf9
  v9:=Tryz.zeroValue9
  t20:=Tryz.underlying20
  a20:=Tryz.isAgg20
  z20:=Tryz.sizeOf20
  v20:=Tryz.zeroValue20
  t21:=Tryz.underlying21
  a21:=Tryz.isAgg21
  z21:=Tryz.sizeOf21
  v21:=Tryz.zeroValue21
  t37:=Tryz.underlying105
  a37:=Tryz.isAgg105
  z37:=Tryz.sizeOf105
  v37:=Tryz.zeroValue105
  t46:=Tryz.underlying158
  a46:=Tryz.isAgg158
  z46:=Tryz.sizeOf158
  v46:=Tryz.zeroValue158
  t51:=Tryz.underlying23
  a51:=Tryz.isAgg23
  z51:=Tryz.sizeOf23
  v51:=Tryz.zeroValue23
  t53:=Tryz.underlying162
  a53:=Tryz.isAgg162
  z53:=Tryz.sizeOf162
  v53:=Tryz.zeroValue162
  t75:=Tryz.underlying109
  a75:=Tryz.isAgg109
  z75:=Tryz.sizeOf109
  v75:=Tryz.zeroValue109
  t76:=Tryz.underlying110
  a76:=Tryz.isAgg110
  z76:=Tryz.sizeOf110
  v76:=Tryz.zeroValue110
  t85:=Tryz.underlying190
  a85:=Tryz.isAgg190
  z85:=Tryz.sizeOf190
  v85:=Tryz.zeroValue190
  t127:=Tryz.underlying141
  a127:=Tryz.isAgg141
  z127:=Tryz.sizeOf141
  v127:=Tryz.zeroValue141
  t143:=Tryz.underlying212
  a143:=Tryz.isAgg212
  z143:=Tryz.sizeOf212
  v143:=Tryz.zeroValue212
  t145:=Tryz.underlying214
  a145:=Tryz.isAgg214
  z145:=Tryz.sizeOf214
  v145:=Tryz.zeroValue214
  t167:=Tryz.underlying189
  a167:=Tryz.isAgg189
  z167:=Tryz.sizeOf189
  v167:=Tryz.zeroValue189
  t168:=Tryz.underlying192
  a168:=Tryz.isAgg192
  z168:=Tryz.sizeOf192
  v168:=Tryz.zeroValue192
  t171:=Tryz.underlying161
  a171:=Tryz.isAgg161
  z171:=Tryz.sizeOf161
  v171:=Tryz.zeroValue161
  t173:=Tryz.underlying165
  a173:=Tryz.isAgg165
  z173:=Tryz.sizeOf165
  v173:=Tryz.zeroValue165
  t175:=Tryz.underlying202
  a175:=Tryz.isAgg202
  z175:=Tryz.sizeOf202
  v175:=Tryz.zeroValue202
  t210:=Tryz.underlying205
  a210:=Tryz.isAgg205
  z210:=Tryz.sizeOf205
  v210:=Tryz.zeroValue205
  t212:=Tryz.underlying182
  a212:=Tryz.isAgg182
  z212:=Tryz.sizeOf182
  v212:=Tryz.zeroValue182
  t213:=Tryz.underlying183
  a213:=Tryz.isAgg183
  z213:=Tryz.sizeOf183
  t232:=Tryz.underlying209
  a232:=Tryz.isAgg209
  z232:=Tryz.sizeOf209
  v232:=Tryz.zeroValue209
  t233:=Tryz.underlying210
  a233:=Tryz.isAgg210
  z233:=Tryz.sizeOf210
  v233:=Tryz.zeroValue210
  g15:=by kernel_rfl
  g16:=by kernel_rfl
  g17:=by kernel_rfl
  g18:=by kernel_rfl
  g19:=by kernel_rfl
  t80:=Tryz.underlying112
  a80:=Tryz.isAgg112
  z80:=Tryz.sizeOf112
  v80:=Tryz.zeroValue112
  i0:=by kernel_rfl
  i2:=by kernel_rfl
  i3:=by kernel_rfl
  i4:=by kernel_rfl
  i5:=by kernel_rfl
  i9:=by kernel_rfl
  i20:=by kernel_rfl
  i21:=by kernel_rfl
  i37:=by kernel_rfl
  i46:=by kernel_rfl
  i51:=by kernel_rfl
  i53:=by kernel_rfl
  i75:=by kernel_rfl
  i76:=by kernel_rfl
  i80:=by kernel_rfl
  i85:=by kernel_rfl
  i127:=by kernel_rfl
  i143:=by kernel_rfl
  i145:=by kernel_rfl
  i167:=by kernel_rfl
  i168:=by kernel_rfl
  i171:=by kernel_rfl
  i173:=by kernel_rfl
  i175:=by kernel_rfl
  i210:=by kernel_rfl
  i212:=by kernel_rfl
  i232:=by kernel_rfl
  i233:=by kernel_rfl
  m15:=by kernel_rfl
  m16:=by kernel_rfl
  m17:=by kernel_rfl
  m18:=by kernel_rfl
  m19:=by kernel_rfl
  c0:=by kernel_rfl
  c2:=by kernel_rfl
  c3:=by kernel_rfl
  c4:=by kernel_rfl
  c5:=by kernel_rfl
  c9:=by kernel_rfl
  c20:=by kernel_rfl
  c21:=by kernel_rfl
  c37:=by kernel_rfl
  c46:=by kernel_rfl
  c51:=by kernel_rfl
  c53:=by kernel_rfl
  c75:=by kernel_rfl
  c76:=by kernel_rfl
  c80:=by kernel_rfl
  c85:=by kernel_rfl
  c127:=by kernel_rfl
  c143:=by kernel_rfl
  c145:=by kernel_rfl
  c167:=by kernel_rfl
  c168:=by kernel_rfl
  c171:=by kernel_rfl
  c173:=by kernel_rfl
  c175:=by kernel_rfl
  c210:=by kernel_rfl
  c212:=by kernel_rfl
  c213:=by kernel_rfl
  c232:=by kernel_rfl
  c233:=by kernel_rfl }
open Go.RowKit in
theorem Tryz.strconv_Atoi_ok (s:ByteArray) (hmax:s.size <= 9223372036854775806) (v:Int) (h:Lib.atoiAll s.data.toList= .ok v) (w:World):
    Calls Tryz.prog 116 #[.string s] w fun e w'=>e= .returned (.tuple #[.int .i64 v,.nilIface])∧(w'=w∨∃t,w'=Lib.bytesWorld w 5 t):=Any.strconv_Atoi_ok Tryz.laysC172 s hmax v h w
open Go.RowKit in
theorem Tryz.strconv_Atoi_syntax (s:ByteArray) (hlim:s.size <= 281474976710656) (h:Lib.atoiAll s.data.toList= Lib.NumEnd.syntax) (ev:Value) (w:World) (hv:w.cell? ⟨4,0,none⟩=some ev) (hev:ev= .nilIface∨∃te pe,ev= .iface te pe):
    Calls Tryz.prog 116 #[.string s] w fun e w'=>∃N,e= .returned (.tuple #[.int .i64 (0),.iface 192 (.pointer (some ⟨N,0,none⟩))])∧w.heap.size <= N∧w'.heap[N]? =some (.cells #[.string ⟨#[65,116,111,105]⟩,.string s,ev] 205 (0,0))∧Below w.heap.size w w':=Any.strconv_Atoi_syntax Tryz.laysC172 s hlim h ev w hv hev
open Go.RowKit in
theorem Tryz.strconv_Atoi_range (s:ByteArray) (hlim:s.size <= 281474976710656) (h:Lib.atoiAll s.data.toList= .range) (ev:Value) (w:World) (hv:w.cell? ⟨5,0,none⟩=some ev) (hev:ev= .nilIface∨∃te pe,ev= .iface te pe):
    Calls Tryz.prog 116 #[.string s] w fun e w'=>∃N,e= .returned (.tuple #[.int .i64 (Lib.atoiSat s.data.toList),.iface 192 (.pointer (some ⟨N,0,none⟩))])∧w.heap.size <= N∧w'.heap[N]? =some (.cells #[.string ⟨#[65,116,111,105]⟩,.string s,ev] 205 (0,0))∧Below w.heap.size w w':=Any.strconv_Atoi_range Tryz.laysC172 s hlim h ev w hv hev
def Tryz.lays144_ren:Go.Shelf.Ren:=⟨fun | 144=>80 | 143=>117 | 219=>144 | 217=>76 | 225=>169 | 224=>170 | 267=>171 | 266=>108 | 314=>182 | n=>n,fun | 9=>9 | 4=>4 | 3=>3 | 5=>5 | 46=>158 | 146=>207 | 51=>23 | n=>n,fun | 1=>0 | n=>n⟩
theorem Tryz.lays144:Go.Proofs.Lays.n144 Tryz.prog Tryz.lays144_ren:={
  mixed:=by kernel_rfl
  f143:=Tryz.func117.trans (congrArg some (by kernel_rfl))
  f144:=Tryz.func80.trans (congrArg some (by kernel_rfl))
  f217:=Tryz.func76.trans (congrArg some (by kernel_rfl))
  f219:=Tryz.func144.trans (congrArg some (by kernel_rfl))
  f224:=Tryz.func170.trans (congrArg some (by kernel_rfl))
  f225:=Tryz.func169.trans (congrArg some (by kernel_rfl))
  f266:=Tryz.func108.trans (congrArg some (by kernel_rfl))
  f267:=Tryz.func171.trans (congrArg some (by kernel_rfl))
  f314:=Tryz.func182.trans (congrArg some (by kernel_rfl))
  t3:=Tryz.underlying3
  a3:=Tryz.isAgg3
  z3:=Tryz.sizeOf3
  v3:=Tryz.zeroValue3
  t4:=Tryz.underlying4
  a4:=Tryz.isAgg4
  z4:=Tryz.sizeOf4
  v4:=Tryz.zeroValue4
  t5:=Tryz.underlying5
  a5:=Tryz.isAgg5
  z5:=Tryz.sizeOf5
  v5:=Tryz.zeroValue5
  t9:=Tryz.underlying9
  a9:=Tryz.isAgg9
  z9:=Tryz.sizeOf9
  v9:=Tryz.zeroValue9
  t46:=Tryz.underlying158
  a46:=Tryz.isAgg158
  z46:=Tryz.sizeOf158
  v46:=Tryz.zeroValue158
  t51:=Tryz.underlying23
  a51:=Tryz.isAgg23
  z51:=Tryz.sizeOf23
  v51:=Tryz.zeroValue23
  t146:=Tryz.underlying207
  a146:=Tryz.isAgg207
  z146:=Tryz.sizeOf207
  v146:=Tryz.zeroValue207
  g1:=by kernel_rfl }
open Go.RowKit Go.Lib in
theorem Tryz.strings_Contains (s sub:ByteArray) (m:Int) (w:World) (hs:s.size<4294967281) (hm:w.cell? ⟨0,0,none⟩=some (.int .i64 m)):
    Calls Tryz.prog 80 #[.string s,.string sub] w fun e w'=>e= .returned (.bool (Lib.contains s.data.toList sub.data.toList))∧w'=w:=Any.strings_Contains Tryz.lays144 s sub m w hs hm
def Tryz.lays145_ren:Go.Shelf.Ren:=⟨fun | 145=>118 | 220=>145 | 219=>144 | 217=>76 | 225=>169 | 224=>170 | 267=>171 | 266=>108 | 314=>182 | n=>n,fun | 9=>9 | 4=>4 | 59=>154 | 3=>3 | 5=>5 | 46=>158 | 146=>207 | 51=>23 | n=>n,fun | 1=>0 | n=>n⟩
theorem Tryz.lays145:Go.Proofs.Lays.n145 Tryz.prog Tryz.lays145_ren:={
  mixed:=by kernel_rfl
  f145:=Tryz.func118.trans (congrArg some (by kernel_rfl))
  f217:=Tryz.func76.trans (congrArg some (by kernel_rfl))
  f219:=Tryz.func144.trans (congrArg some (by kernel_rfl))
  f220:=Tryz.func145.trans (congrArg some (by kernel_rfl))
  f224:=Tryz.func170.trans (congrArg some (by kernel_rfl))
  f225:=Tryz.func169.trans (congrArg some (by kernel_rfl))
  f266:=Tryz.func108.trans (congrArg some (by kernel_rfl))
  f267:=Tryz.func171.trans (congrArg some (by kernel_rfl))
  f314:=Tryz.func182.trans (congrArg some (by kernel_rfl))
  t3:=Tryz.underlying3
  a3:=Tryz.isAgg3
  z3:=Tryz.sizeOf3
  v3:=Tryz.zeroValue3
  t4:=Tryz.underlying4
  a4:=Tryz.isAgg4
  z4:=Tryz.sizeOf4
  v4:=Tryz.zeroValue4
  t5:=Tryz.underlying5
  a5:=Tryz.isAgg5
  z5:=Tryz.sizeOf5
  v5:=Tryz.zeroValue5
  t9:=Tryz.underlying9
  a9:=Tryz.isAgg9
  z9:=Tryz.sizeOf9
  v9:=Tryz.zeroValue9
  t46:=Tryz.underlying158
  a46:=Tryz.isAgg158
  z46:=Tryz.sizeOf158
  v46:=Tryz.zeroValue158
  t51:=Tryz.underlying23
  a51:=Tryz.isAgg23
  z51:=Tryz.sizeOf23
  v51:=Tryz.zeroValue23
  t59:=Tryz.underlying154
  a59:=Tryz.isAgg154
  z59:=Tryz.sizeOf154
  v59:=Tryz.zeroValue154
  t146:=Tryz.underlying207
  a146:=Tryz.isAgg207
  z146:=Tryz.sizeOf207
  v146:=Tryz.zeroValue207
  g1:=by kernel_rfl }
open Go.RowKit Go.Lib in
theorem Tryz.strings_Cut (s sep:ByteArray) (m:Int) (w:World) (hs:s.size<4294967281) (hm:w.cell? ⟨0,0,none⟩=some (.int .i64 m)):
    Calls Tryz.prog 118 #[.string s,.string sep] w fun e w'=>e= .returned (.tuple #[.string ⟨(Lib.cut s.data.toList sep.data.toList).1.toArray⟩,.string ⟨(Lib.cut s.data.toList sep.data.toList).2.1.toArray⟩,.bool (Lib.cut s.data.toList sep.data.toList).2.2])∧∃n,w'=w.drewN n:=Any.strings_Cut Tryz.lays145 s sep m w hs hm
def Tryz.lays146_ren:Go.Shelf.Ren:=⟨fun | 146=>119 | 221=>146 | 268=>172 | 138=>173 | 143=>117 | 195=>183 | 197=>139 | 218=>184 | 219=>144 | 260=>161 | 217=>76 | 225=>169 | 224=>170 | 267=>171 | 266=>108 | 314=>182 | n=>n,fun | 9=>9 | 31=>64 | 3=>3 | 4=>4 | 0=>0 | 105=>173 | 21=>21 | 5=>5 | 46=>158 | 119=>197 | 139=>200 | 138=>199 | 146=>207 | 51=>23 | n=>n,fun | 1=>0 | 3=>2 | 4=>3 | n=>n⟩
theorem Tryz.lays146:Go.Proofs.Lays.n146 Tryz.prog Tryz.lays146_ren:={
  mixed:=by kernel_rfl
  f138:=Tryz.func173.trans (congrArg some (by kernel_rfl))
  f143:=Tryz.func117.trans (congrArg some (by kernel_rfl))
  f146:=Tryz.func119.trans (congrArg some (by kernel_rfl))
  f195:=Tryz.func183.trans (congrArg some (by kernel_rfl))
  f197:=Tryz.func139.trans (congrArg some (by kernel_rfl))
  f217:=Tryz.func76.trans (congrArg some (by kernel_rfl))
  f218:=Tryz.func184.trans (congrArg some (by kernel_rfl))
  f219:=Tryz.func144.trans (congrArg some (by kernel_rfl))
  f221:=Tryz.func146.trans (congrArg some (by kernel_rfl))
  f224:=Tryz.func170.trans (congrArg some (by kernel_rfl))
  f225:=Tryz.func169.trans (congrArg some (by kernel_rfl))
  f260:=Tryz.func161.trans (congrArg some (by kernel_rfl))
  f266:=Tryz.func108.trans (congrArg some (by kernel_rfl))
  f267:=Tryz.func171.trans (congrArg some (by kernel_rfl))
  f268:=Tryz.func172.trans (congrArg some (by kernel_rfl))
  f314:=Tryz.func182.trans (congrArg some (by kernel_rfl))
  t0:=Tryz.underlying0
  a0:=Tryz.isAgg0
  z0:=Tryz.sizeOf0
  v0:=Tryz.zeroValue0
  t3:=Tryz.underlying3
  a3:=Tryz.isAgg3
  z3:=Tryz.sizeOf3
  v3:=Tryz.zeroValue3
  t4:=Tryz.underlying4
  a4:=Tryz.isAgg4
  z4:=Tryz.sizeOf4
  v4:=Tryz.zeroValue4
  t5:=Tryz.underlying5
  a5:=Tryz.isAgg5
  z5:=Tryz.sizeOf5
  v5:=Tryz.zeroValue5
  t9:=Tryz.underlying9
  a9:=Tryz.isAgg9
  z9:=Tryz.sizeOf9
  v9:=Tryz.zeroValue9
  t21:=Tryz.underlying21
  a21:=Tryz.isAgg21
  z21:=Tryz.sizeOf21
  v21:=Tryz.zeroValue21
  t31:=Tryz.underlying64
  a31:=Tryz.isAgg64
  z31:=Tryz.sizeOf64
  v31:=Tryz.zeroValue64
  t46:=Tryz.underlying158
  a46:=Tryz.isAgg158
  z46:=Tryz.sizeOf158
  v46:=Tryz.zeroValue158
  t51:=Tryz.underlying23
  a51:=Tryz.isAgg23
  z51:=Tryz.sizeOf23
  v51:=Tryz.zeroValue23
  t105:=Tryz.underlying173
  a105:=Tryz.isAgg173
  z105:=Tryz.sizeOf173
  v105:=Tryz.zeroValue173
  t119:=Tryz.underlying197
  a119:=Tryz.isAgg197
  z119:=Tryz.sizeOf197
  t138:=Tryz.underlying199
  a138:=Tryz.isAgg199
  z138:=Tryz.sizeOf199
  v138:=Tryz.zeroValue199
  t139:=Tryz.underlying200
  a139:=Tryz.isAgg200
  z139:=Tryz.sizeOf200
  v139:=Tryz.zeroValue200
  t146:=Tryz.underlying207
  a146:=Tryz.isAgg207
  z146:=Tryz.sizeOf207
  v146:=Tryz.zeroValue207
  g1:=by kernel_rfl
  g3:=by kernel_rfl
  g4:=by kernel_rfl }
open Go.RowKit Go.Lib in
theorem Tryz.strings_Split (s sep:ByteArray) (m:Int) (w:World) (hs:s.size<4294967281) (hm:w.cell? ⟨0,0,none⟩=some (.int .i64 m)) (h1:1 <= sep.size):
    Calls Tryz.prog 119 #[.string s,.string sep] w fun e w'=>
      e= .returned (.slice (some ⟨w.heap.size,0,none⟩) (Lib.countB s sep+1) (Lib.countB s sep+1))∧w'=w.alloc (.cells ((Lib.splitB sep 0 (Lib.countB s sep) s).map Value.string).toArray 9):=Any.strings_Split Tryz.lays146 (by kernel_rfl) s sep m w hs hm h1
end Go.Proofs
end
section
namespace Go.Proofs.YtlkdgfolbllngaaGreatDoor
open Go.Sh
def Zbdq:Array Value:=(Lib.pow10Tab.map fun z=>Value.int .u64 z).toArray
def isErr (L:Nat->Option Obj) (b:Nat):Prop:=∃te pe T fr,L b=some (.cells #[.iface te pe] T fr)
instance:Laid where
  blocks:=fun b=>Nat.beq b Zku||(Nat.beq b Zjk||(Nat.beq b Zms||Nat.beq b Zmr))
  ok:=fun L=>(∃T fr,L Zku=some (.cells Zbdq T fr))∧(∃m cs T fr,L Zjk=some (.cells cs T fr)∧cs[0]? =some (.int .i64 m))∧isErr L Zms∧isErr L Zmr
theorem Zbyp {W:World} (h:Laid.ok (layH (hp W))): ∃T fr,W.heap[Zku]? =some (.cells Zbdq T fr):=h.1
theorem Zbco {W:World} (h:Laid.ok (layH (hp W))): ∃m,W.cell? ⟨Zjk,0,none⟩=some (.int .i64 m):=by obtain ⟨m,cs,T,fr,h1,h2⟩:=h.2.1;have h3:W.heap[Zjk]? =some (.cells cs T fr):=h1;refine ⟨m,?_⟩;simp only [World.cell?,h3,Option.isSome_none,Bool.false_eq_true,if_false];exact h2
theorem Zbiw {W:World} {b:Nat} (h: ∃te pe T fr,W.heap[b]? =some (.cells #[.iface te pe] T fr)): ∃te pe,W.cell? ⟨b,0,none⟩=some (.iface te pe):=by obtain ⟨te,pe,T,fr,h⟩:=h;refine ⟨te,pe,?_⟩;simp only [World.cell?,h,Option.isSome_none,Bool.false_eq_true,if_false];rfl
theorem Zbyr {W:World} (h:Laid.ok (layH (hp W))): ∃te pe,W.cell? ⟨Zms,0,none⟩=some (.iface te pe):=Zbiw h.2.2.1
theorem Zbyq {W:World} (h:Laid.ok (layH (hp W))): ∃te pe,W.cell? ⟨Zmr,0,none⟩=some (.iface te pe):=Zbiw h.2.2.2
theorem rest_of {W W':World} (h1:W'.os=W.os) (h2:W'.tape=W.tape) (h3:W'.output=W.output) (h: ∀(b:Nat) o,W.heap[b]? =some o->W'.heap[b]? =some o):Go.Sh.Rest W W':=by
  refine ⟨h1,h2,h3,fun b ds hb=>h b _ hb,?_⟩;cases hs:W.heap.size with
  | zero=>omega
  | succ n=>
    have:=h n _ (Array.getElem?_eq_getElem (by omega))
    have:=(Array.getElem?_eq_some_iff.1 this).1;omega
end Go.Proofs.YtlkdgfolbllngaaGreatDoor
end
section
namespace Go.Proofs.YtlkdgfolbllngaaGreatDoor
open Go.Sh
theorem Zbng:Tryz.prog.globalNamed "internal/strconv.uint64pow10" =some Zku:=by kernel_rfl
abbrev Zrh:List Pk:=[Pk.int .i64]
abbrev Zri:List Pk:=[Pk.str]
def Zjw (n:Int) (K:List UInt8->Prop):Prop:=K (Lib.itoa n)
theorem Zbxc (n:Int) (h0: -9223372036854775808 <= n) (h1:n <= 9223372036854775807):(Lib.itoa n).length <= Zt:=by
  have hd: ∀u:Nat,(Lib.decDigits u).length <= u+1:=by
    intro u;induction u using Nat.strongRecOn with
    | _ u ih=>
      unfold Lib.decDigits;split;simp
      . have:=ih (u/10) (by omega)
        simp only [List.length_append,List.length_cons,List.length_nil];omega
  have hd2: ∀u:Nat,u<9223372036854775809->(Lib.decDigits u).length <= 100000000000000000+1:=by intro u hu;unfold Lib.decDigits;split;simp;have h2:=hd (u/10/10);unfold Lib.decDigits;split;simp;simp only [List.length_append,List.length_cons,List.length_nil];omega
  unfold Lib.itoa Zt;split
  . have:=hd2 n.natAbs (by omega)
    simp only [List.length_cons];omega
  . have:=hd2 n.toNat (by omega)
    omega
theorem Zcej:FnQ Tryz.prog Zpr Zrh Zri (fun x K=>Zjw x.1 (fun r0=>K (r0,()))):=by
  refine Zmp rfl ⟨_,Tryz.func22,by kernel_rfl,by kernel_rfl⟩ fun x K hx W g vs hz hs hl=>?_
  simp only [pksA,pkA] at hs;cases vs with
  | nil=>simp only [SimL] at hs
  | cons v vs=>
    simp only [SimL,SimV] at hs;obtain ⟨⟨rfl,hr⟩,hs⟩:=hs;cases vs with
    | cons=>simp only [SimL] at hs
    | nil=>
      obtain ⟨T,fr,hg⟩:=Zbyp hl;have htab:Lib.TabIs Tryz.prog W "internal/strconv.uint64pow10" .u64 Lib.pow10Tab:=by
        unfold Lib.TabIs World.var?
        rw [Zbng];simp only [Option.bind_some,hg];rfl
      simp only [InR,loI,hiI] at hr;refine (Tryz.strconv_Itoa x.1 hr.1 hr.2 W htab).mono fun e W' ⟨he,k,os,hw⟩=>?_;refine ⟨(Lib.itoa x.1,()),_,he,?_,hx,?_,?_⟩;simp only [pksA,pkA,outA,SimV,bstr];exact ⟨trivial,Zbxc _ hr.1 hr.2⟩
      . subst hw;have hsm: ∀b,hp W b≠none->hp (Go.Sort.grow (W.drewN k) os) b=hp W b:=fun b hb=>by simp only [hp,Go.Sort.grow,World.heap_drewN] at hb ⊢;rw [Array.getElem?_append];rw [if_pos];rcases Nat.lt_or_ge b W.heap.size with h | h;exact h;exact absurd (by simp [h]) hb
        exact ⟨fun b _ hb=>hsm b hb,fun b hb=>by rw [hsm b hb];exact hb⟩
      . subst hw;exact rest_of rfl rfl rfl fun b o h=>by simp only [Go.Sort.grow,World.heap_drewN];rw [Array.getElem?_append,if_pos (Array.getElem?_eq_some_iff.1 h).1];exact h
noncomputable def Zto:Ct:=ctRd Zrh Zri (fun x K=>Zjw x.1 (fun r0=>K (r0,())))
theorem Zbaj:Zbk Tryz.prog Zpr Zto:=Zck Zcej
end Go.Proofs.YtlkdgfolbllngaaGreatDoor
namespace Go.Proofs.YtlkdgfolbllngaaGreatDoor
open Go.Sh
abbrev Znr:List Pk:=[Pk.str]
abbrev Zns:List Pk:=[Pk.int .i64,Pk.err]
def Zev (s:List UInt8):Int×Bool:=match Lib.atoiAll s with
  | .ok v=>(v,true)
  | Lib.NumEnd.syntax =>(0,false)
  | .range=>(Lib.atoiSat s,false)
def Zjv (s:List UInt8) (K:Int->Bool->Prop):Prop:=s.length <= 281474976710656∧K (Zev s).1 (Zev s).2
theorem Zbun {s:List UInt8} {v:Int} (h:Lib.atoiAll s= .ok v):InR .i64 v:=by
  show -9223372036854775808 <= v∧v <= 9223372036854775807;unfold Lib.atoiAll at h;split at h;cases h
  . dsimp only at h;split at h;cases h;cases h
    . rename_i u hu;have:=Lib.parseMag_lt hu;split at h;cases h
      . split at h;cases h
        . rename_i h1 h2;injection h with h
          subst h;split<;>omega
theorem Zcei:FnQ Tryz.prog Zpq Znr Zns (fun x K=>Zjv x.1 (fun r0 r1=>K (r0,r1,()))):=by
  refine Zmp rfl ⟨_,Tryz.func116,by kernel_rfl,by kernel_rfl⟩ fun x K hx W g vs hz hs hl=>?_
  obtain ⟨s,u⟩:=x;change List UInt8 at s;simp only [pksA,pkA] at hs;cases vs with
  | nil=>simp only [SimL] at hs
  | cons v vs=>
    simp only [SimL,SimV] at hs;obtain ⟨⟨rfl,hr⟩,hs⟩:=hs;cases vs with
    | cons=>simp only [SimL] at hs
    | nil=>
      obtain ⟨h1,hk⟩:=hx;change s.length <= 281474976710656 at h1;have hsz:(bstr s).size=s.length:=by simp [bstr,ByteArray.size]
      have hdt:(bstr s).data.toList=s:=by simp [bstr]
      have fin: ∀(n:Int) (ok:Bool) (ev:Value) (W':World),Zev s=(n,ok)->InR .i64 n->(ok=true->ev= .nilIface)->(ok=false->∃t u,ev= .iface t u)->Keep Nil (hp W) (hp W')->Sh.Rest W W'->
          ∃y v,(Ending.returned (.tuple #[.int .i64 n,ev]))= .returned v∧SimV g (hp W') (pksR Znr (s,u)).length (outA (pksA 0 Zns y)) v∧K y∧Keep Nil (hp W) (hp W')∧Sh.Rest W W':=by
        intro n ok ev W' ha hn h2 h3 hkp hr;rw [ha] at hk;refine ⟨(n,ok,()),_,rfl,?_,hk,hkp,hr⟩;simp only [pksA,pkA,outA,SimV];refine ⟨[.int .i64 n,ev],rfl,?_⟩;simp only [SimL,SimV];refine ⟨⟨trivial,hn⟩,?_,trivial⟩;cases ok with
        | true=>exact h2 rfl
        | false=>exact h3 rfl
      cases ha:Lib.atoiAll s with
      | ok v=>
        refine (Tryz.strconv_Atoi_ok (bstr s) (by rw [hsz];omega) v (by rw [hdt];exact ha) W).mono fun e W' ⟨he,hw⟩=>?_
        subst he;obtain ⟨hkp,hr⟩:Keep Nil (hp W) (hp W')∧Sh.Rest W W':=by rcases hw with hw | ⟨t,hw⟩;subst hw;exact ⟨⟨fun b _ _=>rfl,fun b h=>h⟩,rest_of rfl rfl rfl fun _ _ h=>h⟩;subst hw;exact Zvd (Lib.bytesWorld_below _ _ _)
        exact fin v true _ W' (by simp only [Zev,ha]) (Zbun ha) (fun _=>rfl) (fun h=>by cases h) hkp hr
      | range=>
        obtain ⟨te,pe,hc⟩:=Zbyq hl;refine (Tryz.strconv_Atoi_range (bstr s) (by rw [hsz];exact h1) (by rw [hdt];exact ha) _ W hc (Or.inr ⟨_,_,rfl⟩)).mono fun e W' ⟨N,he,_,_,hb⟩=>?_
        subst he;obtain ⟨hkp,hr⟩:=Zvd hb;rw [hdt];refine fin (Lib.atoiSat s) false _ W' (by simp only [Zev,ha]) ?_ (fun h=>by cases h) (fun _=>⟨_,_,rfl⟩) hkp hr
        show -9223372036854775808 <= Lib.atoiSat s∧Lib.atoiSat s <= 9223372036854775807;unfold Lib.atoiSat;split<;>omega
      | _ =>
        obtain ⟨te,pe,hc⟩:=Zbyr hl;refine (Tryz.strconv_Atoi_syntax (bstr s) (by rw [hsz];exact h1) (by rw [hdt];exact ha) _ W hc (Or.inr ⟨_,_,rfl⟩)).mono fun e W' ⟨N,he,_,_,hb⟩=>?_
        subst he;obtain ⟨hkp,hr⟩:=Zvd hb;exact fin 0 false _ W' (by simp only [Zev,ha]) ⟨by show (-9223372036854775808:Int) <= 0;decide,by show (0:Int) <= 9223372036854775807;decide⟩ (fun h=>by cases h) (fun _=>⟨_,_,rfl⟩) hkp hr
noncomputable def Ztn:Ct:=ctRd Znr Zns (fun x K=>Zjv x.1 (fun r0 r1=>K (r0,r1,())))
theorem Zbai:Zbk Tryz.prog Zpq Ztn:=Zck Zcei
end Go.Proofs.YtlkdgfolbllngaaGreatDoor
namespace Go.Proofs.YtlkdgfolbllngaaGreatDoor
open Go.Sh
abbrev Zrl:List Pk:=[Pk.str,Pk.str]
abbrev Zrm:List Pk:=[Pk.own Zcv [Kd.str]]
def Zlh (s sep:List UInt8) (K:List (List UInt8)->Prop):Prop:=s.length<4294967281∧1 <= sep.length∧K (Lib.split s sep)
theorem Zboq (sep:List UInt8): ∀(k:Nat) (s:List UInt8),∀x∈Lib.splitK sep 0 k s,x.length <= s.length:=by
  intro k;induction k with
  | zero=>intro s x hx;simp only [Lib.splitK,List.mem_singleton] at hx;subst hx;exact Nat.le_refl _
  | succ k ih=>
    intro s x hx;unfold Lib.splitK at hx;split at hx;simp only [List.mem_singleton] at hx;subst hx;exact Nat.le_refl _;rcases List.mem_cons.1 hx with hx | hx;subst hx;rw [List.length_take];omega;have:=ih _ x hx;rw [List.length_drop] at this;omega
theorem Zcen:FnQ Tryz.prog Ztx Zrl Zrm (fun x K=>Zlh x.1 x.2.1 (fun r0=>K (r0,()))):=by
  refine Zbwm rfl ⟨_,Tryz.func119,by kernel_rfl,by kernel_rfl⟩ fun x K hx W g vs hz hs hl=>?_
  obtain ⟨s,sep,_⟩:=x;change List UInt8 at s;change List UInt8 at sep;simp only [pksA,pkA,Zbu] at hs;cases vs with
  | nil=>simp only [SimL] at hs
  | cons v vs=>
  cases vs with
  | nil=>simp only [SimL] at hs;exact hs.2.elim
  | cons u vs=>
  cases vs with
  | cons=>simp only [SimL] at hs;exact hs.2.2.elim
  | nil=>
    simp only [SimL,SimV] at hs;obtain ⟨⟨rfl,hl1⟩,⟨rfl,hl2⟩,_⟩:=hs;obtain ⟨h1,h2,hk⟩:=hx;change s.length<4294967281 at h1;change 1 <= sep.length at h2;obtain ⟨m,hm⟩:=Zbco hl;have hsz:(bstr s).size=s.length:=by simp [bstr,ByteArray.size]
    have hsp:(bstr sep).size=sep.length:=by simp [bstr,ByteArray.size]
    refine (Tryz.strings_Split (bstr s) (bstr sep) m W (by rw [hsz];exact h1) hm (by rw [hsp];exact h2)).mono fun e W' ⟨he,hw⟩=>?_
    have hd:(Lib.splitB (bstr sep) 0 (Lib.countB (bstr s) (bstr sep)) (bstr s)).map (·.data.toList)=Lib.split s sep:=by rw [Lib.splitB_data];simp [bstr,Lib.split]
    have hn:(Lib.splitB (bstr sep) 0 (Lib.countB (bstr s) (bstr sep)) (bstr s)).length=Lib.countB (bstr s) (bstr sep)+1:=Lib.splitB_all _ (by rw [hsp];exact h2) 0 _ _ rfl
    have hc:=Lib.countB_le (bstr sep) (by rw [hsp];exact h2) _ (bstr s) (Nat.le_refl _)
    generalize Lib.splitB (bstr sep) 0 (Lib.countB (bstr s) (bstr sep)) (bstr s)=l at hd hn hw;have hll:(Lib.split s sep).length=l.length:=by rw [← hd,List.length_map]
    refine ⟨Lib.split s sep,l.map Value.string,W.heap.size,?_,Zvc W,?_,?_,?_,?_,hk,?_⟩;show e= .returned (.slice _ (Lib.split s sep).length (Lib.split s sep).length);rw [hll,hn];exact he;rw [hw];exact Zvb W _;show _=(Lib.split s sep).length*1;rw [List.length_map,hll];simp;show (Lib.split s sep).length <= _;rw [hll,hn];unfold Zt;omega
    . intro i y hy;change List UInt8 at y;change (Lib.split s sep)[i]? =some y at hy;have hy':=hy;rw [← hd,List.getElem?_map] at hy;cases hb:l[i]? with
      | none=>rw [hb] at hy;cases hy
      | some b=>
        rw [hb] at hy;simp only [Option.map_some,Option.some.injEq] at hy;simp only [Zd,Zi,List.length_cons,List.length_nil,Nat.zero_add,Nat.mul_one,Nat.add_zero];refine ⟨⟨.string b,by rw [List.getElem?_map,hb];rfl,?_,?_⟩,trivial⟩
        show Value.string b=Value.string (bstr y);rw [← hy];simp [bstr];have:=Zboq sep _ s y (List.mem_of_getElem? hy');show List.length y <= Zt;unfold Zt;omega
    rw [hw];exact rest_of rfl rfl rfl fun b o h=>(Array.getElem?_push_lt (Array.getElem?_eq_some_iff.1 h).1).trans ((Array.getElem?_eq_getElem (Array.getElem?_eq_some_iff.1 h).1).symm.trans h)
noncomputable def Zbam:Ct:=Zje Zrl Zrm (fun x K=>Zlh x.1 x.2.1 (fun r0=>K (r0,())))
theorem Zbhu:Zbk Tryz.prog Ztx Zbam:=Zmb Zcen
end Go.Proofs.YtlkdgfolbllngaaGreatDoor
namespace Go.Proofs.YtlkdgfolbllngaaGreatDoor
open Go.Sh
abbrev Znv:List Pk:=[Pk.str,Pk.int .u8]
abbrev Znw:List Pk:=[Pk.int .i64]
def Zib (s:List UInt8) (c:Int) (K:Int->Prop):Prop:=K (Lib.indexByte s c.toNat.toUInt8)
theorem Zbwy (s:List UInt8) (c:UInt8):Lib.indexByte s c <= s.length:=by
  induction s with
  | nil=>simp [Lib.indexByte]
  | cons b l ih=>unfold Lib.indexByte;split<;>(try split)<;>simp<;>omega
theorem Zcem:FnQ Tryz.prog Ztw Znv Znw (fun x K=>Zib x.1 x.2.1 (fun r0=>K (r0,()))):=by
  refine Zmp rfl ⟨_,Tryz.func41,by kernel_rfl,by kernel_rfl⟩ fun x K hx W g vs hz hs hl=>?_
  obtain ⟨s,c,u⟩:=x;change List UInt8 at s;change Int at c;simp only [pksA,pkA] at hs;cases vs with
  | nil=>simp only [SimL] at hs
  | cons v vs=>
  cases vs with
  | nil=>simp only [SimL] at hs;exact hs.2.elim
  | cons w vs=>
  cases vs with
  | cons=>simp only [SimL] at hs;exact hs.2.2.elim
  | nil=>
    simp only [SimL,SimV] at hs;obtain ⟨⟨rfl,h1⟩,⟨rfl,h2⟩,_⟩:=hs;refine (Tryz.strings_IndexByte (bstr s) c W).mono fun e W' ⟨he,hw⟩=>?_;subst hw;have hd:(bstr s).data.toList=s:=by simp [bstr]
    rw [hd] at he;refine ⟨(Lib.indexByte s c.toNat.toUInt8,()),_,he,?_,hx,⟨fun b _ _=>rfl,fun b h=>h⟩,rest_of rfl rfl rfl fun _ _ h=>h⟩;have h3:=Lib.indexByte_ge s c.toNat.toUInt8;have h4:=Zbwy s c.toNat.toUInt8;have h5:s.length <= Zt:=h1;unfold Zt at h5;simp only [pksA,pkA,outA,SimV];exact ⟨trivial,by show -9223372036854775808 <= _;omega,by show _ <= 9223372036854775807;omega⟩
noncomputable def Zbal:Ct:=ctRd Znv Znw (fun x K=>Zib x.1 x.2.1 (fun r0=>K (r0,())))
theorem Zbht:Zbk Tryz.prog Ztw Zbal:=Zck Zcem
end Go.Proofs.YtlkdgfolbllngaaGreatDoor
namespace Go.Proofs.YtlkdgfolbllngaaGreatDoor
open Go.Sh
abbrev Zrj:List Pk:=[Pk.str,Pk.str]
abbrev Zrk:List Pk:=[Pk.bool]
def Znt (s t:List UInt8) (K:Bool->Prop):Prop:=s.length<4294967281∧K (Lib.contains s t)
theorem Zcek:FnQ Tryz.prog Zbaz Zrj Zrk (fun x K=>Znt x.1 x.2.1 (fun r0=>K (r0,()))):=by
  refine Zmp rfl ⟨_,Tryz.func80,by kernel_rfl,by kernel_rfl⟩ fun x K hx W g vs hz hs hl=>?_
  obtain ⟨s,t,u⟩:=x;change List UInt8 at s;change List UInt8 at t;simp only [pksA,pkA] at hs;cases vs with
  | nil=>simp only [SimL] at hs
  | cons v vs=>
  cases vs with
  | nil=>simp only [SimL] at hs;exact hs.2.elim
  | cons w vs=>
  cases vs with
  | cons=>simp only [SimL] at hs;exact hs.2.2.elim
  | nil=>
    simp only [SimL,SimV] at hs;obtain ⟨⟨rfl,h1⟩,⟨rfl,h2⟩,_⟩:=hs;obtain ⟨h3,hk⟩:=hx;change s.length<4294967281 at h3;obtain ⟨m,hm⟩:=Zbco hl;have hsz:(bstr s).size=s.length:=by simp [bstr,ByteArray.size]
    refine (Tryz.strings_Contains (bstr s) (bstr t) m W (by rw [hsz];exact h3) hm).mono fun e W' ⟨he,hw⟩=>?_
    subst hw;have hd:(bstr s).data.toList=s:=by simp [bstr]
    have hd2:(bstr t).data.toList=t:=by simp [bstr]
    rw [hd,hd2] at he;refine ⟨(Lib.contains s t,()),_,he,?_,hk,⟨fun b _ _=>rfl,fun b h=>h⟩,rest_of rfl rfl rfl fun _ _ h=>h⟩;simp only [pksA,pkA,outA,SimV]
noncomputable def Zbhr:Ct:=ctRd Zrj Zrk (fun x K=>Znt x.1 x.2.1 (fun r0=>K (r0,())))
theorem Zbvf:Zbk Tryz.prog Zbaz Zbhr:=Zck Zcek
end Go.Proofs.YtlkdgfolbllngaaGreatDoor
namespace Go.Proofs.YtlkdgfolbllngaaGreatDoor
open Go.Sh
abbrev Zwo:List Pk:=[Pk.str,Pk.str]
abbrev Zwp:List Pk:=[Pk.str,Pk.str,Pk.bool]
def Znu (s t:List UInt8) (K:List UInt8->List UInt8->Bool->Prop):Prop:=s.length<4294967281∧K (Lib.cut s t).1 (Lib.cut s t).2.1 (Lib.cut s t).2.2
theorem Zbvz (s t:List UInt8):(Lib.cut s t).1.length <= s.length∧(Lib.cut s t).2.1.length <= s.length:=by unfold Lib.cut;split<;>simp<;>omega
theorem Zcel:FnQ Tryz.prog Ztv Zwo Zwp (fun x K=>Znu x.1 x.2.1 (fun r0 r1 r2=>K (r0,r1,r2,()))):=by
  refine Zmp rfl ⟨_,Tryz.func118,by kernel_rfl,by kernel_rfl⟩ fun x K hx W g vs hz hs hl=>?_
  obtain ⟨s,t,u⟩:=x;change List UInt8 at s;change List UInt8 at t;simp only [pksA,pkA] at hs;cases vs with
  | nil=>simp only [SimL] at hs
  | cons v vs=>
  cases vs with
  | nil=>simp only [SimL] at hs;exact hs.2.elim
  | cons w vs=>
  cases vs with
  | cons=>simp only [SimL] at hs;exact hs.2.2.elim
  | nil=>
    simp only [SimL,SimV] at hs;obtain ⟨⟨rfl,h1⟩,⟨rfl,h2⟩,_⟩:=hs;obtain ⟨h3,hk⟩:=hx;change s.length<4294967281 at h3;obtain ⟨m,hm⟩:=Zbco hl;have hsz:(bstr s).size=s.length:=by simp [bstr,ByteArray.size]
    refine (Tryz.strings_Cut (bstr s) (bstr t) m W (by rw [hsz];exact h3) hm).mono fun e W' ⟨he,n,hw⟩=>?_
    subst hw;have hd:(bstr s).data.toList=s:=by simp [bstr]
    have hd2:(bstr t).data.toList=t:=by simp [bstr]
    rw [hd,hd2] at he;have hc:=Zbvz s t;refine ⟨((Lib.cut s t).1,(Lib.cut s t).2.1,(Lib.cut s t).2.2,()),_,he,?_,hk,⟨fun b _ _=>by simp only [hp,World.heap_drewN],fun b h=>by simpa only [hp,World.heap_drewN] using h⟩,rest_of rfl rfl rfl fun b o h=>by simpa only [World.heap_drewN] using h⟩
    simp only [pksA,pkA,outA,SimV];refine ⟨_,rfl,?_⟩;simp only [SimL,SimV];exact ⟨⟨rfl,by show (Lib.cut s t).1.length <= Zt;unfold Zt;omega⟩,⟨rfl,by show (Lib.cut s t).2.1.length <= Zt;unfold Zt;omega⟩,trivial,trivial⟩
noncomputable def Zbak:Ct:=ctRd Zwo Zwp (fun x K=>Znu x.1 x.2.1 (fun r0 r1 r2=>K (r0,r1,r2,())))
theorem Zbhs:Zbk Tryz.prog Ztv Zbak:=Zck Zcel
end Go.Proofs.YtlkdgfolbllngaaGreatDoor
namespace Go.Proofs.YtlkdgfolbllngaaGreatDoor
open Go.Sh
abbrev Zwq:List Pk:=[Pk.str,Pk.str]
abbrev Zwr:List Pk:=[Pk.str]
def Zrn (s t:List UInt8) (K:List UInt8->Prop):Prop:=t.length<4294967281∧t.all (fun b=>decide (b.toNat<128))=true∧K (Lib.trimS s t)
theorem Zbax {A:Type} (p:A->Bool): ∀l:List A,(l.dropWhile p).length <= l.length
  | []=>by simp
  | x::l=>by rw [List.dropWhile_cons];split;have:=Zbax p l;simp;omega;exact Nat.le_refl _
theorem Zcft (s t:List UInt8):(Lib.trimS s t).length <= s.length:=by unfold Lib.trimS Lib.trimLeftS Lib.trimRightS;refine Nat.le_trans (Zbax _ _) ?_;rw [List.length_reverse];refine Nat.le_trans (Zbax _ _) ?_;rw [List.length_reverse];exact Nat.le_refl _
theorem Zceo:FnQ Tryz.prog Zbba Zwq Zwr (fun x K=>Zrn x.1 x.2.1 (fun r0=>K (r0,()))):=by
  refine Zmp rfl ⟨_,Tryz.func78,by kernel_rfl,by kernel_rfl⟩ fun x K hx W g vs hz hs hl=>?_
  obtain ⟨s,t,u⟩:=x;change List UInt8 at s;change List UInt8 at t;simp only [pksA,pkA] at hs;cases vs with
  | nil=>simp only [SimL] at hs
  | cons v vs=>
  cases vs with
  | nil=>simp only [SimL] at hs;exact hs.2.elim
  | cons w vs=>
  cases vs with
  | cons=>simp only [SimL] at hs;exact hs.2.2.elim
  | nil=>
    simp only [SimL,SimV] at hs;obtain ⟨⟨rfl,h1⟩,⟨rfl,h2⟩,_⟩:=hs;obtain ⟨h3,h4,hk⟩:=hx;change t.length<4294967281 at h3;have hsz:(bstr s).size=s.length:=by simp [bstr,ByteArray.size]
    have htz:(bstr t).size=t.length:=by simp [bstr,ByteArray.size]
    have hd:(bstr s).data.toList=s:=by simp [bstr]
    have hd2:(bstr t).data.toList=t:=by simp [bstr]
    have h1':s.length <= Zt:=h1;unfold Zt at h1';refine (Any.strings_Trim_laid Tryz.lays160 (by kernel_rfl) (bstr s) (bstr t) W (by rw [hsz];exact h1') (by rw [htz];exact h3) (by rw [hd2];exact ascii_of_all h4)).mono fun e W' ⟨he,hw⟩=>?_
    rw [hd,hd2] at he;have hc:=Zcft s t;obtain ⟨hk1,hr⟩:=Zvd hw;refine ⟨(Lib.trimS s t,()),_,he,?_,hk,hk1,hr⟩;simp only [pksA,pkA,outA,SimV];exact ⟨rfl,by show (Lib.trimS s t).length <= Zt;unfold Zt;omega⟩
noncomputable def Zbhv:Ct:=ctRd Zwq Zwr (fun x K=>Zrn x.1 x.2.1 (fun r0=>K (r0,())))
theorem Zbvg:Zbk Tryz.prog Zbba Zbhv:=Zck Zceo
end Go.Proofs.YtlkdgfolbllngaaGreatDoor
end
