/-
  NUMBERS BY NAME:printed by a program of ours over this translation.
-/
import Derived.Test.YthdffaojeghaeaaGreatDoorED
import Derived.Test.YthdffaojeghaeaaGreatDoorRows
import Derived.Shelf.Strings.Builder1
import Derived.Shelf.Strings.Builder2
import Derived.Shelf.Strings.OnBuilder
import Derived.Shelf.Strings.BuilderF
import Derived.Shelf.Strings.BuilderK
import Derived.Shelf.Strconv.Itoa0
import Derived.Shelf.Strconv.Itoa1
import Derived.Shelf.LaysM
import Derived.Shelf.Strconv.Itoa2
import Derived.Shelf.Strconv.Itoa3
import Derived.Ground.SlgnProg
import Derived.Shelf.SlicesE.Clone
import Derived.Test.YthdffaojeghaeaaGreatDoorProg
import Derived.Test.YthdffaojeghaeaaGreatDoorEB
set_option linter.all false
section
set_option maxRecDepth 100000
set_option maxHeartbeats 4000000
namespace Go.Proofs.YthdffaojeghaeaaGreatDoor
open Go.Sh
def Zg (fn:Func):Code:=match fn.body with | some c=>c | none=> .skip
abbrev Ziu:TypeId:=3
abbrev Zbci:TypeId:=4
abbrev Zec:TypeId:=5
abbrev Zcal:TypeId:=9
abbrev Zep:TypeId:=22
abbrev Zdo:TypeId:=24
abbrev Zba:TypeId:=25
abbrev Zch:TypeId:=27
abbrev Zck:TypeId:=28
abbrev Zcu:TypeId:=30
abbrev Zdq:TypeId:=34
abbrev Zqp:TypeId:=56
abbrev Zoh:TypeId:=58
abbrev Zds:TypeId:=61
abbrev Zjj:TypeId:=63
abbrev Zei:TypeId:=73
abbrev Zcvd:TypeId:=79
abbrev Zbw:TypeId:=83
abbrev Zbk:TypeId:=105
abbrev Zcfk:TypeId:=163
abbrev Zbkh:FuncId:=3
abbrev Zra:FuncId:=4
abbrev Zwr:FuncId:=5
abbrev Zzg:FuncId:=6
abbrev Zxb:FuncId:=7
abbrev Zoc:FuncId:=8
abbrev Zsy:FuncId:=9
abbrev Zzb:FuncId:=10
abbrev Ztq:FuncId:=11
abbrev Zmc:FuncId:=12
abbrev Ztv:FuncId:=13
abbrev Zuv:FuncId:=14
abbrev Zur:FuncId:=15
abbrev Zmv:FuncId:=16
abbrev Zuk:FuncId:=17
abbrev Ztt:FuncId:=18
abbrev Zxc:FuncId:=19
abbrev Zuf:FuncId:=20
abbrev Zym:FuncId:=21
abbrev Zsw:FuncId:=22
abbrev Zzq:FuncId:=23
abbrev Zhk:FuncId:=24
abbrev Zpw:FuncId:=25
abbrev Zqz:FuncId:=26
abbrev Zsv:FuncId:=27
abbrev Zbic:FuncId:=28
abbrev Zdg:FuncId:=29
abbrev Ztn:FuncId:=30
abbrev Zui:FuncId:=31
abbrev Ztp:FuncId:=32
abbrev Zzo:FuncId:=33
abbrev Znq:FuncId:=34
abbrev Znu:FuncId:=35
abbrev Zuu:FuncId:=36
abbrev Zub:FuncId:=37
abbrev Zwz:FuncId:=38
abbrev Zbho:FuncId:=39
abbrev Zoq:FuncId:=40
abbrev Zzk:FuncId:=41
abbrev Zqh:FuncId:=42
abbrev Zbhd:FuncId:=43
abbrev Zus:FuncId:=44
abbrev Zzw:FuncId:=45
abbrev Zua:FuncId:=46
abbrev Zyj:FuncId:=47
abbrev Zxy:FuncId:=48
abbrev Zhf:FuncId:=49
abbrev Ztf:FuncId:=50
abbrev Zms:FuncId:=51
abbrev Zqo:FuncId:=52
abbrev Zjo:FuncId:=53
abbrev Zjf:FuncId:=54
abbrev Zsb:FuncId:=55
abbrev Zfe:FuncId:=56
abbrev Zox:FuncId:=57
abbrev Zme:FuncId:=58
abbrev Zwf:FuncId:=66
abbrev Zwo:FuncId:=71
abbrev Zro:FuncId:=72
abbrev Zuq:FuncId:=73
abbrev Ztz:FuncId:=74
abbrev Zpd:FuncId:=75
abbrev Zwl:FuncId:=76
abbrev Zbhy:FuncId:=77
abbrev Zxz:FuncId:=78
abbrev Zrv:FuncId:=79
abbrev Ztj:FuncId:=80
abbrev Ztx:FuncId:=81
abbrev Zxt:FuncId:=82
abbrev Zyp:FuncId:=83
abbrev Zckf:FuncId:=94
abbrev Zcns:FuncId:=95
abbrev Zll:FuncId:=96
abbrev Zwx:FuncId:=97
abbrev Zsz:FuncId:=98
abbrev Zwn:FuncId:=99
abbrev Zhz:FuncId:=109
abbrev Zzx:FuncId:=110
abbrev Zjv:Nat:=0
end Go.Proofs.YthdffaojeghaeaaGreatDoor
end
section
namespace Go.Proofs
open Go.Shelf
def Tryz.lays156_ren:Go.Shelf.Ren:=⟨fun | 156=>44 | 165=>68 | 166=>69 | 169=>70 | 240=>92 | 241=>93 | 276=>106 | 277=>107 | n=>n,fun | 31=>89 | 9=>9 | 3=>3 | 4=>4 | 0=>0 | 20=>20 | 72=>120 | 76=>123 | 70=>118 | 37=>22 | 75=>122 | 127=>141 | 164=>158 | 5=>5 | 80=>125 | n=>n,fun | n=>n⟩
theorem Tryz.lays156:Go.Proofs.Lays.n156 Tryz.prog Tryz.lays156_ren:={
  mixed:=by kernel_rfl
  f156:=Tryz.func44.trans (congrArg some (by kernel_rfl))
  f165:=Tryz.func68.trans (congrArg some (by kernel_rfl))
  f166:=Tryz.func69.trans (congrArg some (by kernel_rfl))
  f169:=Tryz.func70.trans (congrArg some (by kernel_rfl))
  f240:=Tryz.func92.trans (congrArg some (by kernel_rfl))
  f241:=Tryz.func93.trans (congrArg some (by kernel_rfl))
  f276:=Tryz.func106.trans (congrArg some (by kernel_rfl))
  f277:=Tryz.func107.trans (congrArg some (by kernel_rfl))
  t0:=Tryz.underlying0
  a0:=Tryz.isAgg0
  z0:=Tryz.sizeOf0
  v0:=Tryz.zeroValue0
  t3:=Tryz.underlying3
  a3:=Tryz.isAgg3
  z3:=Tryz.sizeOf3
  v3:=Tryz.zeroValue3
  t4:=Tryz.underlying4
  a4:=Tryz.isAgg4
  z4:=Tryz.sizeOf4
  v4:=Tryz.zeroValue4
  t9:=Tryz.underlying9
  a9:=Tryz.isAgg9
  z9:=Tryz.sizeOf9
  v9:=Tryz.zeroValue9
  t20:=Tryz.underlying20
  a20:=Tryz.isAgg20
  z20:=Tryz.sizeOf20
  v20:=Tryz.zeroValue20
  t31:=Tryz.underlying89
  a31:=Tryz.isAgg89
  z31:=Tryz.sizeOf89
  v31:=Tryz.zeroValue89
  t37:=Tryz.underlying22
  a37:=Tryz.isAgg22
  z37:=Tryz.sizeOf22
  v37:=Tryz.zeroValue22
  t70:=Tryz.underlying118
  a70:=Tryz.isAgg118
  z70:=Tryz.sizeOf118
  v70:=Tryz.zeroValue118
  t72:=Tryz.underlying120
  a72:=Tryz.isAgg120
  z72:=Tryz.sizeOf120
  v72:=Tryz.zeroValue120
  t75:=Tryz.underlying122
  a75:=Tryz.isAgg122
  z75:=Tryz.sizeOf122
  v75:=Tryz.zeroValue122
  t76:=Tryz.underlying123
  a76:=Tryz.isAgg123
  z76:=Tryz.sizeOf123
  v76:=Tryz.zeroValue123
  t127:=Tryz.underlying141
  a127:=Tryz.isAgg141
  z127:=Tryz.sizeOf141
  v127:=Tryz.zeroValue141
  t164:=Tryz.underlying158
  a164:=Tryz.isAgg158
  z164:=Tryz.sizeOf158
  v164:=Tryz.zeroValue158 }
theorem Tryz.Builder_Extra_156:Builder.Extra Tryz.prog Tryz.lays156_ren:={
  sizeBuilder:=by kernel_rfl
  liesBuilder:=by kernel_rfl
  t5:=Tryz.underlying5
  a5:=Tryz.isAgg5
  z5:=Tryz.sizeOf5
  v5:=Tryz.zeroValue5
  infoByte:=by kernel_rfl
  cellsByte:=by kernel_rfl
  sizeByte:=by kernel_rfl
  neB5:=by decide }
open Go.RowKit in
theorem Tryz.strings_Join_none (a:Option Addr) (c:Nat) (sep:ByteArray) (w:World):
    Calls Tryz.prog 44 #[.slice a 0 c,.string sep] w fun e w'=>e= .returned (.string ⟨#[]⟩)∧w'=w:=Any.strings_Join_none Tryz.lays156 Tryz.Builder_Extra_156 a c sep w
open Go.RowKit in
theorem Tryz.strings_Join (bk o c:Nat) (xs:List ByteArray) (sep:ByteArray) (w:World) (hcells: ∀(j:Nat) x,xs[j]? =some x->w.cell? ⟨bk,o+j,none⟩=some (.string x)) (hbk:bk<w.heap.size) (hN:xs.length <= 140737488355328) (hcap:xs.length <= c) (hlen:(Lib.join (xs.map (·.data.toList)) sep.data.toList).length <= 140737488355328):
    Calls Tryz.prog 44 #[.slice (some ⟨bk,o,none⟩) xs.length c,.string sep] w fun e w'=>e= .returned (.string ⟨(Lib.join (xs.map (·.data.toList)) sep.data.toList).toArray⟩)∧Below w.heap.size w w':=Any.strings_Join Tryz.lays156 Tryz.Builder_Extra_156 bk o c xs sep w hcells hbk hN hcap hlen
def Tryz.laysM171_ren:Go.Shelf.Ren:=⟨fun | 171=>43 | 243=>67 | 246=>91 | 283=>102 | 284=>103 | 285=>104 | 286=>105 | 129=>112 | 317=>111 | 318=>113 | 319=>114 | 320=>115 | 337=>117 | 338=>118 | n=>n,fun | 3=>3 | 9=>9 | 2=>2 | 4=>4 | 171=>153 | 0=>0 | 53=>79 | 37=>22 | 5=>5 | 173=>156 | 212=>163 | 51=>25 | 20=>20 | 213=>164 | 46=>92 | 232=>168 | 233=>169 | n=>n,fun | 17=>0 | 18=>2 | 19=>3 | n=>n⟩
theorem Tryz.laysM171:Go.Proofs.LaysM.n171 Tryz.prog Tryz.laysM171_ren:={
  mixed:=by kernel_rfl
  f129:=Tryz.func112.trans (congrArg some (by kernel_rfl))
  f171:=Tryz.func43.trans (congrArg some (by kernel_rfl))
  f243:=Tryz.func67.trans (congrArg some (by kernel_rfl))
  f246:=Tryz.func91.trans (congrArg some (by kernel_rfl))
  f283:=Tryz.func102.trans (congrArg some (by kernel_rfl))
  f284:=Tryz.func103.trans (congrArg some (by kernel_rfl))
  f285:=Tryz.func104.trans (congrArg some (by kernel_rfl))
  f286:=Tryz.func105.trans (congrArg some (by kernel_rfl))
  f317:=Tryz.func111.trans (congrArg some (by kernel_rfl))
  f318:=Tryz.func113.trans (congrArg some (by kernel_rfl))
  f319:=Tryz.func114.trans (congrArg some (by kernel_rfl))
  f320:=Tryz.func115.trans (congrArg some (by kernel_rfl))
  f337:=Tryz.func117.trans (congrArg some (by kernel_rfl))
  f338:=Tryz.func118.trans (congrArg some (by kernel_rfl))
  t0:=Tryz.underlying0
  a0:=Tryz.isAgg0
  z0:=Tryz.sizeOf0
  v0:=Tryz.zeroValue0
  t2:=Tryz.underlying2
  a2:=Tryz.isAgg2
  z2:=Tryz.sizeOf2
  v2:=Tryz.zeroValue2
  t3:=Tryz.underlying3
  a3:=Tryz.isAgg3
  z3:=Tryz.sizeOf3
  v3:=Tryz.zeroValue3
  t4:=Tryz.underlying4
  a4:=Tryz.isAgg4
  z4:=Tryz.sizeOf4
  v4:=Tryz.zeroValue4
  t5:=Tryz.underlying5
  a5:=Tryz.isAgg5
  z5:=Tryz.sizeOf5
  v5:=Tryz.zeroValue5
  t9:=Tryz.underlying9
  a9:=Tryz.isAgg9
  z9:=Tryz.sizeOf9
  v9:=Tryz.zeroValue9
  t20:=Tryz.underlying20
  a20:=Tryz.isAgg20
  z20:=Tryz.sizeOf20
  v20:=Tryz.zeroValue20
  t37:=Tryz.underlying22
  a37:=Tryz.isAgg22
  z37:=Tryz.sizeOf22
  v37:=Tryz.zeroValue22
  t46:=Tryz.underlying92
  a46:=Tryz.isAgg92
  z46:=Tryz.sizeOf92
  v46:=Tryz.zeroValue92
  t51:=Tryz.underlying25
  a51:=Tryz.isAgg25
  z51:=Tryz.sizeOf25
  v51:=Tryz.zeroValue25
  t53:=Tryz.underlying79
  a53:=Tryz.isAgg79
  z53:=Tryz.sizeOf79
  v53:=Tryz.zeroValue79
  t171:=Tryz.underlying153
  a171:=Tryz.isAgg153
  z171:=Tryz.sizeOf153
  v171:=Tryz.zeroValue153
  t173:=Tryz.underlying156
  a173:=Tryz.isAgg156
  z173:=Tryz.sizeOf156
  v173:=Tryz.zeroValue156
  t212:=Tryz.underlying163
  a212:=Tryz.isAgg163
  z212:=Tryz.sizeOf163
  v212:=Tryz.zeroValue163
  t213:=Tryz.underlying164
  a213:=Tryz.isAgg164
  z213:=Tryz.sizeOf164
  t232:=Tryz.underlying168
  a232:=Tryz.isAgg168
  z232:=Tryz.sizeOf168
  v232:=Tryz.zeroValue168
  t233:=Tryz.underlying169
  a233:=Tryz.isAgg169
  z233:=Tryz.sizeOf169
  v233:=Tryz.zeroValue169
  g17:=by kernel_rfl
  g18:=by kernel_rfl
  g19:=by kernel_rfl
  i0:=by kernel_rfl
  i2:=by kernel_rfl
  i3:=by kernel_rfl
  i4:=by kernel_rfl
  i5:=by kernel_rfl
  i9:=by kernel_rfl
  i20:=by kernel_rfl
  i37:=by kernel_rfl
  i46:=by kernel_rfl
  i51:=by kernel_rfl
  i53:=by kernel_rfl
  i171:=by kernel_rfl
  i173:=by kernel_rfl
  i212:=by kernel_rfl
  i232:=by kernel_rfl
  i233:=by kernel_rfl
  m17:=by kernel_rfl
  m18:=by kernel_rfl
  m19:=by kernel_rfl }
open Go.RowKit Go.Sort Go.Lib in
theorem Tryz.strconv_Itoa (n:Int) (h0: -9223372036854775808 <= n) (h1:n <= 9223372036854775807) (w:World) (htab:Lib.TabIs Tryz.prog w "internal/strconv.uint64pow10" .u64 Lib.pow10Tab):
    Calls Tryz.prog 43 #[.int .i64 n] w fun e w'=>e= .returned (.string ⟨(Lib.itoa n).toArray⟩)∧∃k os,w'=grow (w.drewN k) os:=Any.strconv_Itoa Tryz.laysM171 n h0 h1 w htab
end Go.Proofs
end
section
set_option maxRecDepth 100000
namespace Go.Proofs.YthdffaojeghaeaaGreatDoor
open Go.Sh
def Zbvw:Plan:=⟨[],[(0,[],[],[0,1]),(7,[5,34],[.int .u32,.int .i64],[0,1,3,4,32,33])],[],[]⟩
theorem Zcaj:Known Tryz.prog Zqo Tryz.f52 Zbvw (Zg Tryz.f52):=by refine ⟨Tryz.func52,?_,?_,?_,?_,?_⟩<;>kernel_rfl
def Zbix (l:Nat) (b1:Nat) (x13:Int) (x16:Int) (x29c:Nat) (x32l:Nat) (x29a:Option Addr) (x32h:Nat) (next0:(Unit)->Heap->Prop) (a5:Int) (x34:Int) (H5:Heap) (next7:(Int×Int×Unit)->Heap->Prop) (R:Value->Heap->Prop):Prop:=
 IfB (decide ((x34:Int)<((x32h - x32l:Nat):Int)))
 (NilP (if x29c=x32l then x29a else Option.map (fun a=>Addr.add a (x32l*1)) x29a) fun x37q=>
 InB x34 (x32h - x32l) fun x37i=>
 elemAt x37q x37i 1 fun x37p=>
 ∃x38:Int,H5.cell x37p=some (Value.int .u8 x38)∧
 (0:Int) <= (IntKind.wrap .i64 (24 - (IntKind.wrap .i64 (8*x34))))∧
 next7 ((Zga .u32 a5 (IntKind.wrap .u32 ((IntKind.wrap .u32 x38)*2^(min ((IntKind.wrap .i64 (24 - (IntKind.wrap .i64 (8*x34)))):Int).toNat (IntKind.bits .u32))))),((IntKind.wrap .i64 (x34+1)),())) H5)
 (FnW Tryz.prog Zjf ⟨[(Value.int .u32 a5),(Value.int .i64 (IntKind.wrap .i64 x13))]⟩ H5 fun x51v H6=>
 ∃x51:Int,x51v=(Value.int .u32 x51)∧
 Zfq Tryz.prog l [(Value.agg ⟨[(Value.int .u32 x51),(Value.int .i64 (IntKind.wrap .i64 x13))]⟩),(Value.bool true)] H6 fun x54v H7=>
 ∃x54:Bool,x54v=(Value.bool x54)∧
 IfB (!x54)
 (R (Value.tuple ⟨[]⟩) H7)
 (∃(x56a:Option Addr) (x56n x56c:Nat),H7.cell ⟨b1,0,none⟩=some (Value.slice x56a x56n x56c)∧
 InC (IntKind.wrap .i64 (1+x16)) x56n fun x59l=>
 Zb H7 ⟨b1,0,none⟩ (Value.slice (if x56c=x59l then x56a else Option.map (fun a=>Addr.add a (x59l*1)) x56a) (x56n - x59l) (x56c - x59l)) fun H8=>
 next0 () H8))
def Znr (l:Nat) (b1:Nat) (x13:Int) (x16:Int) (next0:(Unit)->Heap->Prop) (x25:Bool) (H3:Heap) (R:Value->Heap->Prop):Prop:=
 IfB x25
 (Zfq Tryz.prog l [(Value.agg ⟨[(Value.int .u32 0),(Value.int .i64 0)]⟩),(Value.bool false)] H3 fun x28v H4=>
 ∃x28:Bool,x28v=(Value.bool x28)∧
 R (Value.tuple ⟨[]⟩) H4)
 (∃(x29a:Option Addr) (x29n x29c:Nat),H3.cell ⟨b1,0,none⟩=some (Value.slice x29a x29n x29c)∧
 InC (IntKind.wrap .i64 (1+x16)) x29c fun x32h=>
 InC 1 x32h fun x32l=>
 Zgk (Int×Int×Unit) (0,(0,())) H3 fun x H next=>∀_g:Env,Zbix l b1 x13 x16 x29c x32l x29a x32h next0 x.1 x.2.1 H next R)
def Zbwg (l:Nat) (b1:Nat) (H1:Heap) (next0:(Unit)->Heap->Prop) (R:Value->Heap->Prop):Prop:=
 ∃(x8a:Option Addr) (x8n x8c:Nat),H1.cell ⟨b1,0,none⟩=some (Value.slice x8a x8n x8c)∧
 IfB (decide (((x8n:Int):Int)>0))
 (∃(x11a:Option Addr) (x11n x11c:Nat),H1.cell ⟨b1,0,none⟩=some (Value.slice x11a x11n x11c)∧
 NilP x11a fun x12q=>
 InB 0 x11n fun x12i=>
 elemAt x12q x12i 1 fun x12p=>
 ∃x13:Int,H1.cell x12p=some (Value.int .u8 x13)∧
 FnW Tryz.prog Zjo ⟨[(Value.int .i64 (IntKind.wrap .i64 x13))]⟩ H1 fun x16v H2=>
 ∃x16:Int,x16v=(Value.int .i64 x16)∧
 IfB (decide (((IntKind.wrap .i64 x13):Int)>32))
 (Znr l b1 x13 x16 next0 true H2 R)
 (∃(x21a:Option Addr) (x21n x21c:Nat),H2.cell ⟨b1,0,none⟩=some (Value.slice x21a x21n x21c)∧
 Znr l b1 x13 x16 next0 (decide ((x16:Int)>(IntKind.wrap .i64 ((x21n:Int) - 1)))) H2 R))
 (R (Value.tuple ⟨[]⟩) H1)
def Zbcr (l:Nat) (b1:Nat) (H:Heap) (R:Value->Heap->Prop):Prop:=
 Zgk (Unit) () H fun x H next=>∀_g:Env,Zbwg l b1 H next R
theorem Zcnh (l:Nat) (b1:Nat) (H:Heap) (R:Value->Heap->Prop):Zbcr l b1 H R=Zc Tryz.prog Zbvw (Zg Tryz.f52) (env0 [(Value.func (.yield l) #[] #[]),(Value.pointer (some ⟨b1,0,none⟩))]) H (RetW Tryz.prog Tryz.f52.results.toList R):=by kernel_rfl
theorem Zcuk (l:Nat) (b1:Nat) {H:Heap} {R:Value->Heap->Prop} (h:Zbcr l b1 H fun v H1=>∀H2,Shut H H1 H2->R v H2):FnW Tryz.prog Zqo ⟨[(Value.func (.yield l) #[] #[]),(Value.pointer (some ⟨b1,0,none⟩))]⟩ H R:=FnW.of_code Zcaj (by kernel_rfl) (Eq.mp (Zcnh l b1 H _) h)
def Zbwc:Plan:=⟨[],[],[],[]⟩
theorem Zcla:Known Tryz.prog Zjo Tryz.f53 Zbwc (Zg Tryz.f53):=by refine ⟨Tryz.func53,?_,?_,?_,?_,?_⟩<;>kernel_rfl
def Zbqo (n0:Int) (H:Heap) (R:Value->Heap->Prop):Prop:=
 (8:Int)≠0∧
 R (Value.int .i64 (IntKind.wrap .i64 (Int.tdiv (IntKind.wrap .i64 ((IntKind.wrap .i64 (n0+8)) - 1)) 8))) H
theorem Zcan (n0:Int) (H:Heap) (R:Value->Heap->Prop):Zbqo n0 H R=Zc Tryz.prog Zbwc (Zg Tryz.f53) (env0 [(Value.int .i64 n0)]) H (RetW Tryz.prog Tryz.f53.results.toList R):=by kernel_rfl
theorem Zcss (n0:Int) {H:Heap} {R:Value->Heap->Prop} (h:Zbqo n0 H fun v H1=>∀H2,Shut H H1 H2->R v H2):FnW Tryz.prog Zjo ⟨[(Value.int .i64 n0)]⟩ H R:=FnW.of_code Zcla (by kernel_rfl) (Eq.mp (Zcan n0 H _) h)
def Zbov:Plan:=⟨[],[],[],[]⟩
theorem Zcoq:Known Tryz.prog Zjf Tryz.f54 Zbov (Zg Tryz.f54):=by refine ⟨Tryz.func54,?_,?_,?_,?_,?_⟩<;>kernel_rfl
def Zbgj (a0:Int) (n1:Int) (H:Heap) (R:Value->Heap->Prop):Prop:=
 (0:Int) <= (IntKind.wrap .i64 (32 - n1))∧
 R (Value.int .u32 (Znz .u32 a0 (IntKind.wrap .u32 (IntKind.wrap .u64 ((IntKind.wrap .u64 (1*2^(min ((IntKind.wrap .i64 (32 - n1)):Int).toNat (IntKind.bits .u64)))) - 1))))) H
theorem Zbzp (a0:Int) (n1:Int) (H:Heap) (R:Value->Heap->Prop):Zbgj a0 n1 H R=Zc Tryz.prog Zbov (Zg Tryz.f54) (env0 [(Value.int .u32 a0),(Value.int .i64 n1)]) H (RetW Tryz.prog Tryz.f54.results.toList R):=by kernel_rfl
theorem Zcdr (a0:Int) (n1:Int) {H:Heap} {R:Value->Heap->Prop} (h:Zbgj a0 n1 H fun v H1=>∀H2,Shut H H1 H2->R v H2):FnW Tryz.prog Zjf ⟨[(Value.int .u32 a0),(Value.int .i64 n1)]⟩ H R:=FnW.of_code Zcoq (by kernel_rfl) (Eq.mp (Zbzp a0 n1 H _) h)
def Zbkk:Plan:=⟨[],[(1,[4],[.int .i64],[0,1,2])],[],[]⟩
theorem Zccp:Known Tryz.prog Zhz Tryz.f109 Zbkk (Zg Tryz.f109):=by refine ⟨Tryz.func109,?_,?_,?_,?_,?_⟩<;>kernel_rfl
def Zbqh (l:Nat) (b1:Nat) (b2:Nat) (i4:Int) (H1:Heap) (next1:(Int×Unit)->Heap->Prop) (R:Value->Heap->Prop):Prop:=
 ∃(x7a:Option Addr) (x7n x7c:Nat),H1.cell ⟨b1,0,none⟩=some (Value.slice x7a x7n x7c)∧
 IfB (decide ((i4:Int)<(x7n:Int)))
 (∃x13:Int,H1.cell ⟨b2,0,none⟩=some (Value.int .i64 x13)∧
 ∃(x14a:Option Addr) (x14n x14c:Nat),H1.cell ⟨b1,0,none⟩=some (Value.slice x14a x14n x14c)∧
 InC i4 x14n fun x16l=>
 ∃(x20a:Option Addr) (x20n x20c:Nat),H1.cell ⟨b1,0,none⟩=some (Value.slice x20a x20n x20c)∧
 InC (IntKind.wrap .i64 (i4+(min x13 ((x14n - x16l:Nat):Int)))) x20c fun x28m=>
 InC (IntKind.wrap .i64 (i4+(min x13 ((x14n - x16l:Nat):Int)))) x28m fun x28h=>
 InC i4 x28h fun x28l=>
 Zfq Tryz.prog l [(Value.slice (if x28m=x28l then x20a else Option.map (fun a=>Addr.add a (x28l*1)) x20a) (x28h - x28l) (x28m - x28l))] H1 fun x29v H2=>
 ∃x29:Bool,x29v=(Value.bool x29)∧
 IfB (!x29)
 (R (Value.tuple ⟨[]⟩) H2)
 (∃x11:Int,H2.cell ⟨b2,0,none⟩=some (Value.int .i64 x11)∧
 next1 ((IntKind.wrap .i64 (i4+x11)),()) H2))
 (R (Value.tuple ⟨[]⟩) H1)
def Zbbw (l:Nat) (b1:Nat) (b2:Nat) (H:Heap) (R:Value->Heap->Prop):Prop:=
 Zgk (Int×Unit) (0,()) H fun x H next=>∀_g:Env,Zbqh l b1 b2 x.1 H next R
theorem Zcqu (l:Nat) (b1:Nat) (b2:Nat) (H:Heap) (R:Value->Heap->Prop):Zbbw l b1 b2 H R=Zc Tryz.prog Zbkk (Zg Tryz.f109) (env0 [(Value.func (.yield l) #[] #[]),(Value.pointer (some ⟨b1,0,none⟩)),(Value.pointer (some ⟨b2,0,none⟩))]) H (RetW Tryz.prog Tryz.f109.results.toList R):=by kernel_rfl
theorem Zcpq (l:Nat) (b1:Nat) (b2:Nat) {H:Heap} {R:Value->Heap->Prop} (h:Zbbw l b1 b2 H fun v H1=>∀H2,Shut H H1 H2->R v H2):FnW Tryz.prog Zhz ⟨[(Value.func (.yield l) #[] #[]),(Value.pointer (some ⟨b1,0,none⟩)),(Value.pointer (some ⟨b2,0,none⟩))]⟩ H R:=FnW.of_code Zccp (by kernel_rfl) (Eq.mp (Zcqu l b1 b2 H _) h)
end Go.Proofs.YthdffaojeghaeaaGreatDoor
end
section
namespace Go.Proofs.YthdffaojeghaeaaGreatDoor
open Go.Sh
def Zto:Array Value:=(Lib.pow10Tab.map fun z=>Value.int .u64 z).toArray
instance:Laid where
  blocks:=fun b=>Nat.beq b Zjv
  ok:=fun L=>∃T fr,L Zjv=some (.cells Zto T fr)
theorem Zcoy {W:World} (h:Laid.ok (layH (hp W))): ∃T fr,W.heap[Zjv]? =some (.cells Zto T fr):=h
theorem rest_of {W W':World} (h1:W'.os=W.os) (h2:W'.tape=W.tape) (h3:W'.output=W.output) (h: ∀(b:Nat) o,W.heap[b]? =some o->W'.heap[b]? =some o):Go.Sh.Rest W W':=by
  refine ⟨h1,h2,h3,fun b ds hb=>h b _ hb,?_⟩;cases hs:W.heap.size with
  | zero=>omega
  | succ n=>
    have:=h n _ (Array.getElem?_eq_getElem (by omega))
    have:=(Array.getElem?_eq_some_iff.1 this).1;omega
end Go.Proofs.YthdffaojeghaeaaGreatDoor
namespace Go.Proofs.YthdffaojeghaeaaGreatDoor
open Go.Sh
theorem Zbjt:Tryz.prog.globalNamed "internal/strconv.uint64pow10" =some Zjv:=by kernel_rfl
abbrev Zxv:List Pk:=[Pk.int .i64]
abbrev Zxu:List Pk:=[Pk.str]
def Zmj (n:Int) (K:List UInt8->Prop):Prop:=K (Lib.itoa n)
theorem Zchy (n:Int) (h0: -9223372036854775808 <= n) (h1:n <= 9223372036854775807):(Lib.itoa n).length <= Zj:=by
  have hd: ∀u:Nat,(Lib.decDigits u).length <= u+1:=by
    intro u;induction u using Nat.strongRecOn with
    | _ u ih=>
      unfold Lib.decDigits;split;simp
      . have:=ih (u/10) (by omega)
        simp only [List.length_append,List.length_cons,List.length_nil];omega
  have hd2: ∀u:Nat,u<9223372036854775809->(Lib.decDigits u).length <= 100000000000000000+1:=by intro u hu;unfold Lib.decDigits;split;simp;have h2:=hd (u/10/10);unfold Lib.decDigits;split;simp;simp only [List.length_append,List.length_cons,List.length_nil];omega
  unfold Lib.itoa Zj;split
  . have:=hd2 n.natAbs (by omega)
    simp only [List.length_cons];omega
  . have:=hd2 n.toNat (by omega)
    omega
theorem Zcmx:FnQ Tryz.prog Zbhd Zxv Zxu (fun x K=>Zmj x.1 (fun r0=>K (r0,()))):=by
  refine Zbte rfl ⟨_,Tryz.func43,by kernel_rfl,by kernel_rfl⟩ fun x K hx W g vs hz hs hl=>?_
  simp only [pksA,pkA] at hs;cases vs with
  | nil=>simp only [SimL] at hs
  | cons v vs=>
    simp only [SimL,SimV] at hs;obtain ⟨⟨rfl,hr⟩,hs⟩:=hs;cases vs with
    | cons=>simp only [SimL] at hs
    | nil=>
      obtain ⟨T,fr,hg⟩:=Zcoy hl;have htab:Lib.TabIs Tryz.prog W "internal/strconv.uint64pow10" .u64 Lib.pow10Tab:=by
        unfold Lib.TabIs World.var?
        rw [Zbjt];simp only [Option.bind_some,hg];rfl
      simp only [InR,loI,hiI] at hr;refine (Tryz.strconv_Itoa x.1 hr.1 hr.2 W htab).mono fun e W' ⟨he,k,os,hw⟩=>?_;refine ⟨(Lib.itoa x.1,()),_,he,?_,hx,?_,?_⟩;simp only [pksA,pkA,outA,SimV,bstr];exact ⟨trivial,Zchy _ hr.1 hr.2⟩
      . subst hw;have hsm: ∀b,hp W b≠none->hp (Go.Sort.grow (W.drewN k) os) b=hp W b:=fun b hb=>by simp only [hp,Go.Sort.grow,World.heap_drewN] at hb ⊢;rw [Array.getElem?_append];rw [if_pos];rcases Nat.lt_or_ge b W.heap.size with h | h;exact h;exact absurd (by simp [h]) hb
        exact ⟨fun b _ hb=>hsm b hb,fun b hb=>by rw [hsm b hb];exact hb⟩
      . subst hw;exact rest_of rfl rfl rfl fun b o h=>by simp only [Go.Sort.grow,World.heap_drewN];rw [Array.getElem?_append,if_pos (Array.getElem?_eq_some_iff.1 h).1];exact h
noncomputable def Zbsz:Ct:=ctRd Zxv Zxu (fun x K=>Zmj x.1 (fun r0=>K (r0,())))
theorem Zccg:Zw Tryz.prog Zbhd Zbsz:=Zde Zcmx
end Go.Proofs.YthdffaojeghaeaaGreatDoor
namespace Go.Proofs.YthdffaojeghaeaaGreatDoor
open Go.Sh
abbrev Zbbn:List Pk:=[Pk.lst [Kd.str],Pk.str]
abbrev Zbce:List Pk:=[Pk.str]
def Zyk (xs:List (List UInt8)) (sep:List UInt8) (K:List UInt8->Prop):Prop:=xs.length <= 140737488355328∧(Lib.join xs sep).length <= 140737488355328∧K (Lib.join xs sep)
theorem Zcfv {W:World} {g:Gh} {xs:List (List UInt8)} {sep:List UInt8} {v:Value} (hv:Za g.Z (hp W) (.lst [.str]) xs v) (h1:xs.length <= 140737488355328) (h2:(Lib.join xs sep).length <= 140737488355328):
    Calls Tryz.prog Zus ⟨[v,.string (bstr sep)]⟩ W fun e W'=>e= .returned (.string (bstr (Lib.join xs sep)))∧Go.RowKit.Below W.heap.size W W':=by
  simp only [Za] at hv;obtain ⟨a,n,c,rfl,hn,hnc,hcm,hc⟩:=hv;have hn:xs.length=n:=hn;rcases Nat.eq_zero_or_pos n with h0 | h0;subst h0;have hnil:xs= []:=List.eq_nil_of_length_eq_zero hn;refine (Tryz.strings_Join_none a c (bstr sep) W).mono fun e W' ⟨he,hw⟩=>⟨?_,?_⟩;rw [he,hnil];rfl;subst hw;exact .refl _ _
  . obtain ⟨b,o,rfl,hzb,cs,T,fr,hb,hcs⟩:=hc h0;have hbs:b<W.heap.size:=by
      rcases Nat.lt_or_ge b W.heap.size with h | h;exact h
      . have:hp W b=none:=by simp [hp,h]
        rw [this] at hb;cases hb
    have hmap:(xs.map bstr).map (·.data.toList)=xs:=by
      rw [List.map_map]
      conv=>rhs;rw [← List.map_id xs]
      exact List.map_congr_left fun s _=>by simp [bstr]
    have:=Tryz.strings_Join b o c (xs.map bstr) (bstr sep) W (fun j s hj=>by
      rw [List.getElem?_map] at hj;cases hx:xs[j]? with
      | none=>rw [hx] at hj;cases hj
      | some t=>
        rw [hx] at hj;cases hj;have h3:=hcs j t hx;simp only [Zd,Za] at h3;obtain ⟨⟨v,h4,h5,_⟩,_⟩:=h3;simp only [List.length_cons,List.length_nil,Nat.zero_add,Nat.mul_one,Nat.add_zero] at h4;have hb':W.heap[b]? =some (.cells cs T fr):=hb;simp only [World.cell?,hb',Option.isSome_none,Bool.false_eq_true,if_false];rw [h4,h5];rfl) hbs (by simpa using h1) (by simp;omega) (by
        rw [hmap];exact h2)
    rw [hmap] at this;have e1:(xs.map bstr).length=n:=by simp [hn]
    rw [e1] at this;exact this
theorem Zcjs:FnQ Tryz.prog Zus Zbbn Zbce (fun x K=>Zyk x.1 x.2.1 (fun r0=>K (r0,()))):=by
  refine Zbte rfl ⟨_,Tryz.func44,by kernel_rfl,by kernel_rfl⟩ fun x K hx W g vs hz hs hl=>?_
  simp only [pksA,pkA,Zcd] at hs;cases vs with
  | nil=>simp only [SimL] at hs
  | cons v vs=>
  cases vs with
  | nil=>simp only [SimL] at hs;exact hs.2.elim
  | cons u vs=>
  cases vs with
  | cons=>simp only [SimL] at hs;exact hs.2.2.elim
  | nil=>
    simp only [SimL,SimV] at hs;obtain ⟨hv,⟨rfl,_⟩,_⟩:=hs;obtain ⟨h1,h2,hk⟩:=hx;refine (Zcfv hv h1 h2).mono fun e W' ⟨he,hb⟩=>?_;obtain ⟨hkp,hr⟩:=Zcnu hb;refine ⟨(Lib.join x.1 x.2.1,()),_,he,?_,hk,hkp,hr⟩;simp only [pksA,pkA,outA,SimV];exact ⟨trivial,by unfold Zj;omega⟩
noncomputable def Zbra:Ct:=ctRd Zbbn Zbce (fun x K=>Zyk x.1 x.2.1 (fun r0=>K (r0,())))
theorem Zchu:Zw Tryz.prog Zus Zbra:=Zde Zcjs
end Go.Proofs.YthdffaojeghaeaaGreatDoor
namespace Go.Proofs.YthdffaojeghaeaaGreatDoor
open Go.Sh
theorem Zlw (a:Nat) (h:a <= 9223372036854775807):IntKind.wrap .i64 (a:Int)=(a:Int):=Ze (by omega) (by omega)
theorem Zbzy (n a:Nat) (ha:a<2^n) (k:Nat) (hk:k <= n):a&&& (2^n - 1 - (2^k - 1))=a - a%2^k:=by
  have hpk:2^k <= 2^n:=Nat.pow_le_pow_right (by decide) hk
  have h0:0<2^k:=Nat.two_pow_pos k;apply Nat.eq_of_testBit_eq;intro i;rw [Nat.testBit_and,show 2^n - 1 - (2^k - 1)=2^n - ((2^k - 1)+1) by omega,Nat.testBit_two_pow_sub_succ (by omega),Nat.testBit_two_pow_sub_one]
  have e:a - a%2^k=2^k*(a/2^k):=by have:=Nat.div_add_mod a (2^k);omega
  rw [e,Nat.testBit_two_pow_mul];by_cases hi:i<k;simp [hi];intro _;omega
  . rw [Nat.testBit_div_two_pow,show i - k+k=i by omega]
    by_cases hn:i<n;simp [hi,hn];omega
    . have:a.testBit i=false:=Nat.testBit_lt_two_pow (Nat.lt_of_lt_of_le ha (Nat.pow_le_pow_right (by decide) (by omega)))
      simp [this]
theorem Zbjc (a:Nat) (ha:a<4294967296) (k:Nat) (hk:k <= 32):Znz .u32 (a:Int) ((2^k - 1:Nat):Int)=((a - a%2^k:Nat):Int):=by
  have hp:2^k <= 2^32:=Nat.pow_le_pow_right (by decide) hk
  have h0:0<2^k:=Nat.two_pow_pos k;have e32:(2:Nat)^32=4294967296:=rfl;unfold Znz;have hb:IntKind.bits .u32=32:=rfl;rw [hb,Zls 32 a (by omega),Zls 32 (2^k - 1) (by omega),BitVec.toNat_and,BitVec.toNat_not,BitVec.toNat_ofNat,BitVec.toNat_ofNat,Nat.mod_eq_of_lt (by omega),Nat.mod_eq_of_lt (by omega)]
  rw [Zbzy 32 a (by omega) k hk,wu32 (by omega)]
def Zdk (n:Nat):Nat:=2^(32 - n)
theorem Zgy (a:Nat) (h:a<18446744073709551616):IntKind.wrap .u64 (a:Int)=(a:Int):=by rw [Zcaq];omega
end Go.Proofs.YthdffaojeghaeaaGreatDoor
set_option maxHeartbeats 1000000
namespace Go.Proofs.YthdffaojeghaeaaGreatDoor
open Go.Sh
abbrev PfB:=(UInt32×Int)×Bool×Unit
def oct8 (n:Nat):Nat:=(n+7)/8
def Zhp (a:Int) (j:Nat) (x:UInt8):Int:=Zga .u32 a (IntKind.wrap .u32 (IntKind.wrap .u32 (x.toNat:Int)*2^(min (24 - 8*j) 32)))
def pxF:Nat->Int->List UInt8->Int
  | _,a,[]=>a
  | j,a,x::r=>pxF (j+1) (Zhp a j x) r
theorem Zbls (x:UInt8): ∀(l:List UInt8) (j:Nat) (a:Int),pxF j a (l++[x])=Zhp (pxF j a l) (j+l.length) x
  | [],_,_=>rfl
  | y::l,j,a=>by show pxF (j+1) _ (l++[x])=_;rw [Zbls x l (j+1)];show Zhp (pxF (j+1) (Zhp a j y) l) (j+1+l.length) x=Zhp (pxF (j+1) (Zhp a j y) l) (j+(l.length+1)) x;rw [show j+1+l.length=j+(l.length+1) by omega]
theorem Zccb (a:Int) (j:Nat) (x:UInt8):0 <= Zhp a j x∧Zhp a j x<4294967296:=by unfold Zhp Zga;rw [Zbbh];omega
theorem Zbsd: ∀(l:List UInt8) (j:Nat) (a:Int),0 <= a∧a<4294967296->0 <= pxF j a l∧pxF j a l<4294967296
  | [],_,_,h=>h
  | x::r,j,a,_=>Zbsd r (j+1) _ (Zccb a j x)
def pxN (l:List UInt8):Nat:=(pxF 0 0 l).toNat
theorem Zcew (l:List UInt8):pxF 0 0 l=(pxN l:Int)∧pxN l<4294967296:=by
  have:=Zbsd l 0 0 ⟨by decide,by decide⟩
  unfold pxN;omega
def Zpu (n:Nat) (l:List UInt8):UInt32×Int:=(UInt32.ofNat (pxN l - pxN l%Zdk n),(n:Int))
def Zhb:Nat->List UInt8->List PfB
  | 0,_=>[]
  | _+1,[]=>[]
  | f+1,x::r=>if x.toNat <= 32∧oct8 x.toNat <= r.length then (Zpu x.toNat (r.take (oct8 x.toNat)),true,())::Zhb f (r.drop (oct8 x.toNat)) else [((0,0),false,())]
theorem Zbsy: ∀(k k':Nat) (s:List UInt8),s.length <= k->s.length <= k'->Zhb k s=Zhb k' s
  | 0,0,s,_,_=>rfl
  | 0,k'+1,[],_,_=>rfl
  | 0,_+1,_::_,h,_=>by simp at h
  | k+1,0,[],_,_=>rfl
  | _+1,0,_::_,_,h=>by simp at h
  | k+1,k'+1,[],_,_=>rfl
  | k+1,k'+1,x::r,h,h'=>by
    simp only [Zhb];have e:(r.drop (oct8 x.toNat)).length <= r.length:=by simp only [List.length_drop];omega
    simp only [List.length_cons] at h h';rw [Zbsy k k' _ (by omega) (by omega)]
def Zu (s:List UInt8):List PfB:=Zhb s.length s
theorem Zcfq:Zu []= []:=rfl
theorem Zbfh {x:UInt8} {r:List UInt8} (h: ¬(x.toNat <= 32∧oct8 x.toNat <= r.length)):Zu (x::r)= [((0,0),false,())]:=by unfold Zu;simp only [List.length_cons,Zhb];rw [if_neg h]
theorem Zbto {x:UInt8} {r:List UInt8} (h:x.toNat <= 32∧oct8 x.toNat <= r.length):Zu (x::r)=(Zpu x.toNat (r.take (oct8 x.toNat)),true,())::Zu (r.drop (oct8 x.toNat)):=by unfold Zu;simp only [List.length_cons,Zhb];rw [if_pos h,Zbsy r.length _ _ (by simp only [List.length_drop];omega) (Nat.le_refl _)]
def Zhx:It:=⟨[.agg [.int .u32,.int .i64],.bool],[.lst [.int .u8]],fun c=>Zu c.1,fun c=>c.1.length <= 4611686018427387904⟩
theorem Zbyj {Z:Nat->Prop} {H:Heap} {s:List UInt8} {a:Option Addr} {n c:Nat} (h:Za Z H (.lst [.int .u8]) s (.slice a n c)) {k:Nat} (hk:k <= n):
    Za Z H (.lst [.int .u8]) (s.drop k) (.slice (if c=k then a else Option.map (fun a=>Addr.add a (k*1)) a) (n - k) (c - k)):=by
  simp only [Za] at h ⊢;obtain ⟨a',n',c',e,hl,hnc,hcm,hat⟩:=h;cases e;have hl:s.length=n:=hl;refine ⟨_,_,_,rfl,?_,by omega,by omega,fun h0=>?_⟩
  show (s.drop k).length=_;rw [List.length_drop,hl]
  . obtain ⟨b,o,rfl,hz,cs,T,fr,hb,hc⟩:=hat (by omega)
    rw [if_neg (by omega)]
    refine ⟨b,o+k,by simp [Addr.add],hz,cs,T,fr,hb,fun i x hx=>?_⟩
    have hx:(s.drop k)[i]? =some x:=hx;rw [List.getElem?_drop] at hx;refine Zd.congr (fun jj _=>?_) (hc (k+i) x hx);congr 1;simp only [List.length_cons,List.length_nil];omega
theorem Zbxw {Z:Nat->Prop} {H:Heap} {s:List UInt8} {a:Option Addr} {n c:Nat} (h:Za Z H (.lst [.int .u8]) s (.slice a n c)) {i:Nat} {x:UInt8} (hx:s[i]? =some x):
    ∃b o,a=some ⟨b,o,none⟩∧Z b∧∀H':Heap,H' b=H b->H'.cell ⟨b,o+i,none⟩=some (.int .u8 (x.toNat:Int)):=by
  simp only [Za] at h;obtain ⟨a',n',c',e,hl,hnc,hcm,hat⟩:=h;cases e;have hl:s.length=n:=hl;have hi:i<s.length:=(List.getElem?_eq_some_iff.1 hx).1;obtain ⟨b,o,rfl,hz,cs,T,fr,hb,hc⟩:=hat (by omega)
  refine ⟨b,o,rfl,hz,fun H' he=>?_⟩;have h2:=hc i x hx;simp only [Zd,Za,List.length_cons,List.length_nil,Nat.zero_add,Nat.mul_one,Nat.add_zero] at h2;obtain ⟨⟨v,h3,h4,_⟩,_⟩:=h2;unfold Heap.cell;simp only [he,hb];show cs[o+i]? =_;rw [h3,h4];rfl
theorem Zii {H:Heap} {b:Nat} {v:Value} {T:TypeId} (h:H b=some (.cells ⟨[v]⟩ T (0,0))):H.cell ⟨b,0,none⟩=some v:=by simp [Heap.cell,h]
theorem Zchw {H:Heap} (a n:Nat) (ha:a<4294967296) (hn:n <= 32):FnW Tryz.prog Zjf ⟨[.int .u32 (a:Int),.int .i64 (n:Int)]⟩ H fun v H'=>v= .int .u32 ((a - a%Zdk n:Nat):Int)∧Keep Nil H H':=by
  refine Zcdr a n ?_;unfold Zbgj;have e1:IntKind.wrap .i64 (32 - (n:Int))=((32 - n:Nat):Int):=by rw [Ze (by omega) (by omega)];omega
  rw [e1];refine ⟨by omega,fun H2 hs=>⟨?_,Zib (Keep.refl _ _) hs⟩⟩
  have hp:2^(32 - n) <= 2^32:=Nat.pow_le_pow_right (by decide) (by omega)
  have h0:0<2^(32 - n):=Nat.two_pow_pos _;have e32:(2:Nat)^32=4294967296:=rfl;have e2:(min ((32 - n:Nat):Int).toNat (IntKind.bits .u64))=32 - n:=by rw [Int.toNat_natCast];have:IntKind.bits .u64=64:=rfl;rw [this];omega
  have e3:(1*(2^(32 - n)):Int)=((2^(32 - n):Nat):Int):=by rw [Int.one_mul];norm_cast
  rw [e2,e3,Zgy _ (by omega),show (((2^(32 - n):Nat):Int) - 1)=((2^(32 - n) - 1:Nat):Int) by omega,Zgy _ (by omega),wu32 (by omega),Zbjc a ha _ (by omega)]
  rfl
theorem Zcpp {H:Heap} (n:Nat) (hn:n <= 300):FnW Tryz.prog Zjo ⟨[.int .i64 (n:Int)]⟩ H fun v H'=>v= .int .i64 (oct8 n:Nat)∧Keep Nil H H':=by
  refine Zcss n ⟨by decide,fun H2 hs=>⟨?_,Zib (Keep.refl _ _) hs⟩⟩
  rw [Ze (n:=(n:Int)+8) (by omega) (by omega),Ze (n:=(n:Int)+8 - 1) (by omega) (by omega),Int.tdiv_eq_ediv_of_nonneg (by omega),Ze (by omega) (by omega)]
  unfold oct8;congr 1;omega
structure QI {l:Nat} (Hs:Heap) (Z:Nat->Prop) (b1:Nat) (C:Cons Tryz.prog l Zhx.ps Hs [b1]) (rest:List PfB) (s:List UInt8) (v:Value) (H:Heap) (Z' W':Nat->Prop):Prop where
  J:C.J Z' W' rest H
  bx: ∃T,H b1=some (.cells ⟨[v]⟩ T (0,0))
  cs:Za Z Hs (.lst [.int .u8]) s v
  z: ∀b,Z b->Z' b∧H b=Hs b
  w1: ¬W' b1
  z1: ¬Z' b1
theorem QI.quiet {l:Nat} {Hs:Heap} {Z:Nat->Prop} {b1:Nat} {C:Cons Tryz.prog l Zhx.ps Hs [b1]} {rest:List PfB} {s:List UInt8} {v:Value} {H H':Heap} {Z' W':Nat->Prop} (q:QI Hs Z b1 C rest s v H Z' W') (hz0: ∀b,Z b->Hs b≠none) (k:Keep Nil H H'):QI Hs Z b1 C rest s v H' Z' W':=by obtain ⟨T,hb⟩:=q.bx;exact ⟨C.stJ q.J (fun b hb _=>k.same b (fun h=>h) hb) k.live,⟨T,(k.same b1 (fun h=>h) (by rw [hb];simp)).trans hb⟩,q.cs,fun b hb=>⟨(q.z b hb).1,(k.same b (fun h=>h) (by rw [(q.z b hb).2];exact hz0 b hb)).trans (q.z b hb).2⟩,q.w1,q.z1⟩
theorem QI.round {l:Nat} {Hs:Heap} {Z:Nat->Prop} {b1:Nat} {C:Cons Tryz.prog l Zhx.ps Hs [b1]} {rest:List PfB} {s:List UInt8} {v:Value} {H:Heap} {Z' W':Nat->Prop} {a n:Nat} {ok:Bool}
    (q:QI Hs Z b1 C (((UInt32.ofNat a,(n:Int)),ok,())::rest) s v H Z' W') (ha:a<4294967296) (hn:n <= 32):
    Zfq Tryz.prog l [.agg ⟨[.int .u32 (a:Int),.int .i64 (n:Int)]⟩,.bool ok] H fun w H'=>(w= .bool true∧∃Z'' W'',QI Hs Z b1 C rest s v H' Z'' W'')∨(w= .bool false∧∃Z'' W'',C.X Z'' W'' H'):=by
  obtain ⟨T,hb⟩:=q.bx;have l1:H b1≠none:=by rw [hb];simp
  refine Zfq.mono (fun w H' hv=>?_) (C.round (Zx:=fun _=>False) (x:=((UInt32.ofNat a,(n:Int)),ok,())) q.J ?_ (fun b hb=>hb.elim));obtain ⟨k1,k2,Z'',W'',k3,k4,k5,k6,k7,hk⟩:=hv;rcases hk with ⟨rfl,hk⟩ | ⟨rfl,hk⟩;refine .inl ⟨rfl,Z'',W'',hk,⟨T,(k1 b1 l1 q.w1).trans hb⟩,q.cs,fun b hb=>?_,fun h=>?_,fun h=>?_⟩;obtain ⟨q1,q2⟩:=k3 b (.inl (q.z b hb).1);exact ⟨q1,q2.trans (q.z b hb).2⟩;rcases k4 b1 h with h | h;exact q.w1 h;exact l1 h;rcases k5 b1 h with h | h | h | h;exact q.z1 h;exact h;exact q.w1 h;exact l1 h;exact .inr ⟨rfl,Z'',W'',hk⟩
  . show Zlb _ H [.agg [.int .u32,.int .i64],.bool] ((UInt32.ofNat a,(n:Int)),ok,()) _;simp only [Zlb,pksA,pkA,SimL,SimV,and_true];refine ⟨_,rfl,?_⟩;have e:(UInt32.ofNat a).toNat=a:=by rw [UInt32.toNat_ofNat',Nat.mod_eq_of_lt (by omega)]
    simp only [lvT,lvE,SimL,SimV,and_true,hdT,tlT,toI,e,true_and];exact ⟨⟨by simp [loI],by simp only [hiI];omega⟩,⟨by simp only [loI];omega,by simp only [hiI];omega⟩⟩
section
variable {l:Nat} {Hs:Heap} {Z:Nat->Prop} {b1:Nat} {C:Cons Tryz.prog l Zhx.ps Hs [b1]}
theorem Zbtt {x13 x16:Int} {next0:Unit->Heap->Prop} {s:List UInt8} {v:Value} {H:Heap} {Z' W':Nat->Prop} (q:QI Hs Z b1 C [((0,0),false,())] s v H Z' W'):
    Znr l b1 x13 x16 next0 true H fun _ H1=>∀H2,Shut Hs H1 H2->∃Z' W',C.J Z' W' [] H2∨C.X Z' W' H2:=by
  unfold Znr;refine ifT rfl (Zfq.mono (fun w H' hv=>?_) (QI.round (a:=0) (n:=0) (ok:=false) (rest:=[]) q (by decide) (by decide)))
  rcases hv with ⟨rfl,Z'',W'',hq⟩ | ⟨rfl,Z'',W'',hx⟩;exact ⟨true,rfl,fun H2 hs=>C.shut hs ⟨Z'',W'',.inl hq.J⟩⟩;exact ⟨false,rfl,fun H2 hs=>C.shut hs ⟨Z'',W'',.inr hx⟩⟩
theorem Zckw {next0:Unit->Heap->Prop} {x:UInt8} {r:List UInt8} {v:Value} {H:Heap} {Z' W':Nat->Prop} (hz0: ∀b,Z b->Hs b≠none) (hok:x.toNat <= 32∧oct8 x.toNat <= r.length) (hl:(x::r).length <= 4611686018427387904)
    (q:QI Hs Z b1 C (Zu (x::r)) (x::r) v H Z' W') (hn: ∀v' H' Z'' W'',QI Hs Z b1 C (Zu (r.drop (oct8 x.toNat))) (r.drop (oct8 x.toNat)) v' H' Z'' W''->next0 () H'):
    Znr l b1 (x.toNat:Int) (oct8 x.toNat:Nat) next0 false H fun _ H1=>∀H2,Shut Hs H1 H2->∃Z' W',C.J Z' W' [] H2∨C.X Z' W' H2:=by
  have hv:=q.cs;simp only [Za] at hv;obtain ⟨a,n,c,rfl,hln,hnc,hcm, -⟩:=hv;have hln:(x::r).length=n:=hln;simp only [List.length_cons] at hln hl;unfold Zj at hcm;have ho:oct8 x.toNat <= 4:=by unfold oct8;omega
  obtain ⟨T,hbx⟩:=q.bx;unfold Znr;have w1:IntKind.wrap .i64 (1+((oct8 x.toNat:Nat):Int))=((1+oct8 x.toNat:Nat):Int):=by rw [Ze (by omega) (by omega)];omega
  rw [w1];refine ifF rfl ⟨a,n,c,Zii hbx,by omega,by omega,by omega,by omega,?_⟩
  rw [Int.toNat_natCast];refine ⟨fun k y H'=>∃j:Nat,j <= oct8 x.toNat∧k=oct8 x.toNat - j∧y=(pxF 0 0 (r.take j),(j:Int),())∧QI Hs Z b1 C (Zu (x::r)) (x::r) (.slice a n c) H' Z' W',oct8 x.toNat,⟨0,Nat.zero_le _,by omega,rfl,q⟩,?_⟩
  rintro k y H5 ⟨j,hj,rfl,rfl,q5⟩ g;simp only;unfold Zbix;refine IfB.intro (fun h1=>?_) (fun h1=>?_)
  . have h1:j<oct8 x.toNat:=by have:=of_decide_eq_true h1;omega
    obtain ⟨y,hy⟩: ∃y,r[j]? =some y:=⟨_,List.getElem?_eq_getElem (by omega)⟩
    obtain ⟨b,o,rfl,hzb,hcell⟩:=Zbxw (i:=1+j) (x:=y) q.cs (by rw [Nat.add_comm];simpa using hy)
    have hc1:c≠(1:Int).toNat:=by show c≠1;omega
    rw [if_neg hc1];refine NilP.intro _ rfl ⟨by omega,by omega,?_⟩
    show ∃x38:Int,H5.cell ⟨b,o+(1:Int).toNat*1+(j:Int).toNat*1,none⟩=some (.int .u8 x38)∧_;have e1:o+(1:Int).toNat*1+(j:Int).toNat*1=o+(1+j):=by rw [Int.toNat_natCast];show o+1*1+j*1=_;omega
    rw [e1];have w2:IntKind.wrap .i64 (24 - IntKind.wrap .i64 (8*(j:Int)))=((24 - 8*j:Nat):Int):=by
      rw [Ze (n:=8*(j:Int)) (by omega) (by omega),Ze (by omega) (by omega)];omega
    refine ⟨(y.toNat:Int),hcell H5 (q5.z b hzb).2,by rw [w2];omega,oct8 x.toNat - (j+1),by omega,j+1,by omega,rfl,?_,q5⟩
    rw [w2,Int.toNat_natCast,Ze (n:=(j:Int)+1) (by omega) (by omega),List.take_add_one,hy]
    simp only [Option.toList_some];rw [Zbls];have e3:(r.take j).length=j:=by rw [List.length_take];omega
    rw [e3,Nat.zero_add];rfl
  . have h1:j=oct8 x.toNat:=by have:=of_decide_eq_false h1;omega
    subst h1;have w3:IntKind.wrap .i64 (x.toNat:Int)=(x.toNat:Int):=Ze (by omega) (by omega)
    obtain ⟨e1,e2⟩:=Zcew (r.take (oct8 x.toNat));rw [w3,e1];refine (Zchw _ _ e2 hok.1).mono ?_;rintro w H6 ⟨rfl,k6⟩;refine ⟨_,rfl,?_⟩;have q6:=q5.quiet hz0 k6;rw [Zbto hok] at q6;refine Zfq.mono (fun w H7 hv=>?_) (QI.round (a:=pxN (r.take (oct8 x.toNat)) - pxN (r.take (oct8 x.toNat))%Zdk x.toNat) (n:=x.toNat) (ok:=true) q6 (by omega) hok.1)
    rcases hv with ⟨rfl,Z'',W'',q7⟩ | ⟨rfl,Z'',W'',hx⟩
    . refine ⟨true,rfl,ifF rfl ?_⟩;obtain ⟨T7,hb7⟩:=q7.bx;refine ⟨a,n,c,Zii hb7,by omega,by omega,Zb.blk (T:=T7) hb7 (by simp) rfl ?_⟩
      rw [w1,Int.toNat_natCast];have hd:=Zbyj (k:=1+oct8 x.toNat) q7.cs (by omega)
      have e4:(x::r).drop (1+oct8 x.toNat)=r.drop (oct8 x.toNat):=by rw [Nat.add_comm];rfl
      have hd:=(congrArg (fun z:List UInt8=>Za Z Hs (.lst [.int .u8]) z (.slice (if c=1+oct8 x.toNat then a else Option.map (fun a=>Addr.add a ((1+oct8 x.toNat)*1)) a) (n - (1+oct8 x.toNat)) (c - (1+oct8 x.toNat)))) e4).mp hd
      refine hn _ _ Z'' W'' ⟨C.stJ q7.J (fun b hb hw=>?_) (fun b hb=>?_),⟨T7,?_⟩,hd,fun b hb=>⟨(q7.z b hb).1,?_⟩,q7.w1,q7.z1⟩;refine Sh.upd_ne fun e=>?_;subst e;rcases hw with h | h | h;exact q7.z1 h;exact q7.w1 h;exact h.2 (by simp)
      by_cases e:b=b1;subst e;rw [Sh.upd_eq];simp;rw [Sh.upd_ne e];exact hb;rw [Sh.upd_eq];rfl
      . have hne:b≠b1:=fun e=>by subst e;exact q7.z1 (q7.z b hb).1
        rw [Sh.upd_ne hne];exact (q7.z b hb).2
    exact ⟨false,rfl,ifT rfl fun H2 hs=>C.shut hs ⟨Z'',W'',.inr hx⟩⟩
theorem Zcco {T1:TypeId} {W:Nat->Prop} {s:List UInt8} {v1:Value} (hz0: ∀b,Z b->Hs b≠none) (hl:s.length <= 4611686018427387904) (hs:Za Z Hs (.lst [.int .u8]) s v1)
    (hb1:Hs b1=some (.cells ⟨[v1]⟩ T1 (0,0))) (hz1: ¬Z b1) (hw1: ¬W b1) (hJ:C.J Z W (Zu s) Hs):
    FnW Tryz.prog Zqo ⟨[.func (.yield l) #[] #[],Zdn b1]⟩ Hs fun _ H'=>∃Z' W',C.J Z' W' [] H'∨C.X Z' W' H':=by
  refine Zcuk l b1 ?_;unfold Zbcr;refine ⟨fun k _ H=>∃s v Z' W',k=s.length∧s.length <= 4611686018427387904∧QI Hs Z b1 C (Zu s) s v H Z' W',s.length,⟨s,v1,Z,W,rfl,hl,hJ,⟨T1,hb1⟩,hs,fun b hb=>⟨hb,rfl⟩,hw1,hz1⟩,?_⟩;rintro k u H ⟨s,v,Z',W',rfl,hl,q⟩ g;have hv:=q.cs;simp only [Za] at hv;obtain ⟨a,n,c,rfl,hln,hnc,hcm, -⟩:=hv;have hln:s.length=n:=hln;obtain ⟨T,hbx⟩:=q.bx;unfold Zbwg;refine ⟨a,n,c,Zii hbx,IfB.intro (fun h1=>?_) (fun h1=>?_)⟩
  . have h1:0<n:=by have:=of_decide_eq_true h1;omega
    cases s with
    | nil=>simp at hln;omega
    | cons x r=>
    obtain ⟨b,o,rfl,hzb,hcell⟩:=Zbxw (i:=0) (x:=x) q.cs rfl;refine ⟨_,n,c,Zii hbx,NilP.intro _ rfl ⟨by omega,by omega,?_⟩⟩
    have hx:=UInt8.toNat_lt x;have w3:IntKind.wrap .i64 (x.toNat:Int)=(x.toNat:Int):=Ze (by omega) (by omega)
    refine ⟨(x.toNat:Int),hcell H (q.z b hzb).2,?_⟩;rw [w3];refine (Zcpp x.toNat (by omega)).mono ?_
    rintro w H2 ⟨rfl,k2⟩;have q2:=q.quiet hz0 k2;obtain ⟨T2,hbx2⟩:=q2.bx;refine ⟨_,rfl,IfB.intro (fun h2=>?_) (fun h2=>?_)⟩
    . have h2: ¬(x.toNat <= 32∧oct8 x.toNat <= r.length):=fun h=>by have:=of_decide_eq_true h2;omega
      rw [Zbfh h2] at q2;exact Zbtt q2
    . have h2:x.toNat <= 32:=by have:=of_decide_eq_false h2;omega
      refine ⟨_,n,c,Zii hbx2,?_⟩;simp only [List.length_cons] at hln hl;rw [Ze (n:=(n:Int) - 1) (by omega) (by omega)]
      by_cases h3:oct8 x.toNat <= r.length
      . rw [decide_eq_false (by omega)]
        refine Zckw hz0 ⟨h2,h3⟩ (by simp only [List.length_cons];omega) q2 fun v' H' Z'' W'' q'=>⟨_,?_,_,v',Z'',W'',rfl,?_,q'⟩
        simp only [List.length_drop,List.length_cons];omega;simp only [List.length_drop];omega
      . rw [decide_eq_true (by omega)]
        have h4: ¬(x.toNat <= 32∧oct8 x.toNat <= r.length):=fun h=>h3 h.2;rw [Zbfh h4] at q2;exact Zbtt q2
  . have h1:n=0:=by have:=of_decide_eq_false h1;omega
    have:s= []:=List.eq_nil_of_length_eq_zero (by omega)
    subst this;exact fun H2 hs2=>C.shut hs2 ⟨Z',W',.inl q.J⟩
end
theorem Zctw:ItOk Tryz.prog Zqo Zhx:=by
  intro Hs Z W bs us c l C hpre hnd hlen hval hus hwf hzl hbz hwl hlay hlo hJ;obtain ⟨s,cu⟩:=c;have hus':SimL ⟨Z,fun _=>0,fun _=> .nilFunc⟩ Hs 0 [AV.lst [.int .u8] s] us:=hus
  match us,hus' with
  | [v1],hus'=>
  match bs,hlen with
  | [b1],_=>
  simp only [SimL,SimV] at hus';obtain ⟨T1,hb1⟩:=hval 0 b1 v1 rfl rfl;exact Zcco hzl hpre hus'.1 hb1 (hbz b1 (by simp)).1 (hbz b1 (by simp)).2 hJ
end Go.Proofs.YthdffaojeghaeaaGreatDoor
set_option maxHeartbeats 1000000
namespace Go.Proofs.YthdffaojeghaeaaGreatDoor
open Go.Sh
def chunks (n:Nat):Nat->List UInt8->List (List UInt8)
  | 0,_=>[]
  | _+1,[]=>[]
  | k+1,x::r=>(x::r).take n::chunks n k ((x::r).drop n)
theorem Zbtj {n:Nat} (hn:0<n): ∀(k k':Nat) (s:List UInt8),s.length <= k->s.length <= k'->chunks n k s=chunks n k' s
  | 0,0,s,_,_=>rfl
  | 0,k'+1,[],_,_=>rfl
  | 0,_+1,_::_,h,_=>by simp at h
  | k+1,0,[],_,_=>rfl
  | _+1,0,_::_,_,h=>by simp at h
  | k+1,k'+1,[],_,_=>rfl
  | k+1,k'+1,x::r,h,h'=>by
    simp only [chunks];have e:((x::r).drop n).length <= r.length:=by simp only [List.length_drop,List.length_cons];omega
    simp only [List.length_cons] at h h';rw [Zbtj hn k k' _ (by omega) (by omega)]
def Zgl (s:List UInt8) (n:Int):List (List UInt8×Unit):=(chunks n.toNat s.length s).map fun x=>(x,())
theorem Zcnl (n:Int):Zgl [] n= []:=rfl
theorem Zbru {s:List UInt8} {n:Int} (hn:1 <= n) (hs:s≠[]):Zgl s n=(s.take n.toNat,())::Zgl (s.drop n.toNat) n:=by
  cases s with
  | nil=>exact absurd rfl hs
  | cons x r=>
    unfold Zgl;have e:((x::r).drop n.toNat).length <= r.length:=by simp only [List.length_drop,List.length_cons];omega
    simp only [List.length_cons,chunks,List.map_cons];rw [Zbtj (by omega) r.length _ _ e (Nat.le_refl _)]
def Zbgm (s:List UInt8) (n:Int):Prop:=1 <= n∧n <= 4611686018427387904∧s.length <= 4611686018427387904
def Zle:It:=⟨[.lst [.int .u8]],[.lst [.int .u8],.int .i64],fun c=>Zgl c.1 c.2.1,fun c=>Zbgm c.1 c.2.1⟩
theorem Zblm {A:Type} {l:List A} (h:l.length=2): ∃a b,l= [a,b]:=by
  match l,h with
  | [a,b],_=>exact ⟨a,b,rfl⟩
theorem Zcqb {Hs:Heap} {Z W:Nat->Prop} {b1 b2:Nat} {T1 T2:TypeId} {s:List UInt8} {n:Int} {v1:Value} {l:Nat} {C:Cons Tryz.prog l Zle.ps Hs [b1,b2]} (hpre:Zbgm s n) (hs:Za Z Hs (.lst [.int .u8]) s v1)
    (hb1:Hs b1=some (.cells ⟨[v1]⟩ T1 (0,0))) (hb2:Hs b2=some (.cells ⟨[.int .i64 n]⟩ T2 (0,0))) (hw1: ¬W b1) (hw2: ¬W b2) (hJ:C.J Z W (Zgl s n) Hs):
    FnW Tryz.prog Zhz ⟨[.func (.yield l) #[] #[],Zdn b1,Zdn b2]⟩ Hs fun _ H'=>∃Z' W',C.J Z' W' [] H'∨C.X Z' W' H':=by
  obtain ⟨hn1,hn2,hsl⟩:=hpre;simp only [Za] at hs;obtain ⟨a,m,cp,rfl,hsm,hmc,hcm,hat⟩:=hs;have hsm':s.length=m:=hsm;unfold Zj at hcm;refine Zcpq l b1 b2 ?_;unfold Zbbw;refine ⟨fun k x H=>∃(i:Nat) (Z' W':Nat->Prop),x.1=(i:Int)∧k=s.length - i∧C.J Z' W' (Zgl (s.drop i) n) H∧H b1=Hs b1∧H b2=Hs b2∧(∀b,Z b->Z' b∧H b=Hs b)∧¬W' b1∧¬W' b2,
    s.length,⟨0,Z,W,rfl,rfl,hJ,rfl,rfl,fun b hb=>⟨hb,rfl⟩,hw1,hw2⟩,?_⟩
  rintro k x H ⟨i,Z',W',hx,rfl,hJi,h1,h2,hZ,hw1,hw2⟩ gE;have c1:=Zii (h1.trans hb1);have c2:=Zii (h2.trans hb2);obtain ⟨xi,xu⟩:=x;simp only at hx;subst hx;simp only;unfold Zbqh;refine ⟨a,m,cp,c1,?_⟩;refine IfB.intro (fun hlt=>?_) (fun hge=>?_)
  . have him:i<m:=by have:=of_decide_eq_true hlt;omega
    refine ⟨n,c2,a,m,cp,c1,by omega,by omega,a,m,cp,c1,?_⟩
    have he: ∃e:Nat,e=min n.toNat (m - i):=⟨_,rfl⟩;obtain ⟨e,he⟩:=he;have hw:IntKind.wrap .i64 ((i:Int)+(min n ((m - (i:Int).toNat:Nat):Int)))=((i+e:Nat):Int):=by rw [Ze]<;>simp only [Int.toNat_natCast]<;>omega
    rw [hw];refine ⟨by omega,by omega,?_⟩
    simp only [Int.toNat_natCast];refine ⟨by omega,by omega,?_⟩
    simp only [Int.toNat_natCast];refine ⟨by omega,by omega,?_⟩
    simp only [Int.toNat_natCast];rw [if_neg (by omega)]
    obtain ⟨b,o,rfl,hzb,cs,T,fr,hcb,hcc⟩:=hat (by omega)
    have hne:s.drop i≠[]:=fun h0=>by have:=congrArg List.length h0;simp only [List.length_drop,List.length_nil] at this;omega
    rw [Zbru hn1 hne] at hJi;refine Zfq.mono (fun v H' hv=>?_) (C.round (Zx:=Z) hJi ?_ (fun b hb=> .inl (hZ b hb).1))
    . obtain ⟨k1,k2,Z'',W'',k3,k4,k5,k6,k7,hk⟩:=hv;have hl1:H b1≠none:=by rw [h1,hb1];simp
      have hl2:H b2≠none:=by rw [h2,hb2];simp
      rcases hk with ⟨rfl,hk⟩ | ⟨rfl,hk⟩
      . refine ⟨true,rfl,ifF rfl ⟨n,Zii (((k1 b2 hl2 hw2).trans h2).trans hb2),s.length - (i+n.toNat),by omega,i+n.toNat,Z'',W'',?_,rfl,?_,(k1 b1 hl1 hw1).trans h1,(k1 b2 hl2 hw2).trans h2,fun b hb=>?_,fun h=>?_,fun h=>?_⟩⟩
        show IntKind.wrap .i64 ((i:Int)+n)=_;rw [Ze]<;>omega;rw [← List.drop_drop];exact hk;obtain ⟨q1,q2⟩:=k3 b (.inl (hZ b hb).1);exact ⟨q1,q2.trans (hZ b hb).2⟩;rcases k4 b1 h with h | h;exact hw1 h;exact hl1 h;rcases k4 b2 h with h | h;exact hw2 h;exact hl2 h
      exact ⟨false,rfl,ifT rfl fun H2 hs2=>C.shut hs2 ⟨Z'',W'',.inr hk⟩⟩
    . show Zlb Z H [.lst [.int .u8]] ((s.drop i).take n.toNat,()) _;simp only [Zlb,pksA,pkA,SimL,SimV,and_true];simp only [Za];refine ⟨_,_,_,rfl,?_,Nat.le_refl _,by unfold Zj;omega,fun _=>⟨b,o+i,by simp [Addr.add],hzb,cs,T,fr,by rw [(hZ b hzb).2];exact hcb,fun j x hj=>?_⟩⟩
      show ((s.drop i).take n.toNat).length=_;simp only [List.length_take,List.length_drop];omega;have hj':((s.drop i).take n.toNat)[j]? =some x:=hj;rw [List.getElem?_take] at hj';split at hj';rw [List.getElem?_drop] at hj';refine Zd.congr (fun jj _=>?_) (Zd.ext (fun b hb=>⟨hb,(hZ b hb).2⟩) _ _ _ (hcc (i+j) x hj'));congr 1;simp only [List.length_cons,List.length_nil];omega;cases hj'
  . have hge':m <= i:=by have:=of_decide_eq_false hge;omega
    intro H2 hs2;refine C.shut hs2 ⟨Z',W',.inl ?_⟩;have:s.drop i= []:=List.drop_eq_nil_of_le (by omega)
    rw [this] at hJi;exact hJi
theorem Zbij:ItOk Tryz.prog Zhz Zle:=by
  intro Hs Z W bs us c l C hpre hnd hlen hval hus hwf hzl hbz hwl hlay hlo hJ;obtain ⟨s,n,cu⟩:=c;have hus':SimL ⟨Z,fun _=>0,fun _=> .nilFunc⟩ Hs 0 [AV.lst [.int .u8] s,.int .i64 n] us:=hus;obtain ⟨v1,v2,rfl⟩:=Zblm (hus'.len).symm;obtain ⟨b1,b2,rfl⟩:=Zblm (l:=bs) (by rw [hlen];rfl)
  simp only [SimL,SimV] at hus';obtain ⟨hs,⟨rfl,hnr⟩,_⟩:=hus';obtain ⟨T1,hb1⟩:=hval 0 b1 v1 rfl rfl;obtain ⟨T2,hb2⟩:=hval 1 b2 _ rfl rfl;exact Zcqb hpre hs hb1 hb2 (hbz b1 (by simp)).2 (hbz b2 (by simp)).2 hJ
end Go.Proofs.YthdffaojeghaeaaGreatDoor
end
section
set_option maxRecDepth 100000
namespace Go.Proofs.YthdffaojeghaeaaGreatDoor
open Go.Sh
noncomputable def Zbap:List Value:=(Zcx Tryz.prog Zds).getD []
def Zbok:Plan:=⟨[(12,[0,1,2,3,4,5,6,7,8],[76]),(14,[0,1,2,3,4,5,6,7,8,9,10,11],[87])],[(2,[0],[.slice],[2,6,8,9])],[],[]⟩
theorem Zcjy:Known Tryz.prog Zmc Tryz.f12 Zbok (Zg Tryz.f12):=by refine ⟨Tryz.func12,?_,?_,?_,?_,?_⟩<;>kernel_rfl
def Zbxl (x6b:Nat) (x8b:Nat) (x14b:Nat) (x70:Int) (next2:((Option Addr×Nat×Nat)×Unit)->Heap->Prop) (H16:Heap) (R:Value->Heap->Prop):Prop:=
 IfB (decide ((x70:Int)≥2))
 (∃bs:List Nat,(∀b∈bs,∃o,H16 b=some o)∧
 x14b∈bs∧∃x76:Int,H16.cell ⟨x14b,14,none⟩=some (Value.int .i64 x76)∧
 Zb H16 ⟨x6b,0,none⟩ (Value.int .i64 0) fun H17=>
 Zb H17 ⟨x6b,1,none⟩ (Value.slice none 0 0) fun H18=>
 Zb H18 ⟨x6b,2,none⟩ (Value.int .u32 0) fun H19=>
 Zb H19 ⟨x6b,3,none⟩ (Value.bool false) fun H20=>
 Zb H20 ⟨x6b,4,none⟩ (Value.int .u32 0) fun H21=>
 Zb H21 ⟨x6b,5,none⟩ (Value.bool false) fun H22=>
 Zb H22 ⟨x6b,6,none⟩ (Value.int .u32 0) fun H23=>
 Zb H23 ⟨x6b,7,none⟩ (Value.bool false) fun H24=>
 Zb H24 ⟨x6b,8,none⟩ (Value.bool false) fun H25=>
 Zb H25 ⟨x6b,9,none⟩ (Value.int .u32 0) fun H26=>
 Zb H26 ⟨x6b,10,none⟩ (Value.int .u32 0) fun H27=>
 Zb H27 ⟨x6b,11,none⟩ (Value.slice none 0 0) fun H28=>
 Zb H28 ⟨x6b,12,none⟩ (Value.slice none 0 0) fun H29=>
 Zcl bs H16 H29∧Zb H29 ⟨x8b,0,none⟩ (Value.int .i64 0) fun H30=>
 Zb H30 ⟨x8b,1,none⟩ (Value.int .i64 0) fun H31=>
 Zb H31 ⟨x8b,2,none⟩ (Value.slice none 0 0) fun H32=>
 ∃r0c0:Int,H32.cell ⟨x6b,0,none⟩=some (Value.int .i64 r0c0)∧∃(r0c1a:Option Addr) (r0c1n r0c1c:Nat),H32.cell ⟨x6b,1,none⟩=some (Value.slice r0c1a r0c1n r0c1c)∧∃r0c2:Int,H32.cell ⟨x6b,2,none⟩=some (Value.int .u32 r0c2)∧∃r0c3:Bool,H32.cell ⟨x6b,3,none⟩=some (Value.bool r0c3)∧∃r0c4:Int,H32.cell ⟨x6b,4,none⟩=some (Value.int .u32 r0c4)∧∃r0c5:Bool,H32.cell ⟨x6b,5,none⟩=some (Value.bool r0c5)∧∃r0c6:Int,H32.cell ⟨x6b,6,none⟩=some (Value.int .u32 r0c6)∧∃r0c7:Bool,H32.cell ⟨x6b,7,none⟩=some (Value.bool r0c7)∧∃r0c8:Bool,H32.cell ⟨x6b,8,none⟩=some (Value.bool r0c8)∧∃r0c9:Int,H32.cell ⟨x6b,9,none⟩=some (Value.int .u32 r0c9)∧∃r0c10:Int,H32.cell ⟨x6b,10,none⟩=some (Value.int .u32 r0c10)∧∃(r0c11a:Option Addr) (r0c11n r0c11c:Nat),H32.cell ⟨x6b,11,none⟩=some (Value.slice r0c11a r0c11n r0c11c)∧∃(r0c12a:Option Addr) (r0c12n r0c12c:Nat),H32.cell ⟨x6b,12,none⟩=some (Value.slice r0c12a r0c12n r0c12c)∧∃r2c0:Int,H32.cell ⟨x8b,0,none⟩=some (Value.int .i64 r2c0)∧∃r2c1:Int,H32.cell ⟨x8b,1,none⟩=some (Value.int .i64 r2c1)∧∃(r2c2a:Option Addr) (r2c2n r2c2c:Nat),H32.cell ⟨x8b,2,none⟩=some (Value.slice r2c2a r2c2n r2c2c)∧R (Value.tuple ⟨[(Value.agg ⟨[(Value.int .i64 r0c0),(Value.slice r0c1a r0c1n r0c1c),(Value.int .u32 r0c2),(Value.bool r0c3),(Value.int .u32 r0c4),(Value.bool r0c5),(Value.int .u32 r0c6),(Value.bool r0c7),(Value.bool r0c8),(Value.int .u32 r0c9),(Value.int .u32 r0c10),(Value.slice r0c11a r0c11n r0c11c),(Value.slice r0c12a r0c12n r0c12c)]⟩),(Value.int .i64 x76),(Value.agg ⟨[(Value.int .i64 r2c0),(Value.int .i64 r2c1),(Value.slice r2c2a r2c2n r2c2c)]⟩)]⟩) H32)
 (FnW Tryz.prog Zsv ⟨[(Value.pointer (some ⟨x14b,0,none⟩))]⟩ H16 fun x79v H33=>
 x79v=(Value.tuple ⟨[]⟩)∧
 ∃bs:List Nat,(∀b∈bs,∃o,H33 b=some o)∧
 ∃x83c0:Int,H33.cell ⟨x14b,0,none⟩=some (Value.int .i64 x83c0)∧∃(x83c1a:Option Addr) (x83c1n x83c1c:Nat),H33.cell ⟨x14b,1,none⟩=some (Value.slice x83c1a x83c1n x83c1c)∧∃x83c2:Int,H33.cell ⟨x14b,2,none⟩=some (Value.int .u32 x83c2)∧∃x83c3:Bool,H33.cell ⟨x14b,3,none⟩=some (Value.bool x83c3)∧∃x83c4:Int,H33.cell ⟨x14b,4,none⟩=some (Value.int .u32 x83c4)∧∃x83c5:Bool,H33.cell ⟨x14b,5,none⟩=some (Value.bool x83c5)∧∃x83c6:Int,H33.cell ⟨x14b,6,none⟩=some (Value.int .u32 x83c6)∧∃x83c7:Bool,H33.cell ⟨x14b,7,none⟩=some (Value.bool x83c7)∧∃x83c8:Bool,H33.cell ⟨x14b,8,none⟩=some (Value.bool x83c8)∧∃x83c9:Int,H33.cell ⟨x14b,9,none⟩=some (Value.int .u32 x83c9)∧∃x83c10:Int,H33.cell ⟨x14b,10,none⟩=some (Value.int .u32 x83c10)∧∃(x83c11a:Option Addr) (x83c11n x83c11c:Nat),H33.cell ⟨x14b,11,none⟩=some (Value.slice x83c11a x83c11n x83c11c)∧∃(x83c12a:Option Addr) (x83c12n x83c12c:Nat),H33.cell ⟨x14b,12,none⟩=some (Value.slice x83c12a x83c12n x83c12c)∧x14b∈bs∧∃x87:Int,H33.cell ⟨x14b,14,none⟩=some (Value.int .i64 x87)∧
 Zb H33 ⟨x6b,0,none⟩ (Value.int .i64 x83c0) fun H34=>
 Zb H34 ⟨x6b,1,none⟩ (Value.slice x83c1a x83c1n x83c1c) fun H35=>
 Zb H35 ⟨x6b,2,none⟩ (Value.int .u32 x83c2) fun H36=>
 Zb H36 ⟨x6b,3,none⟩ (Value.bool x83c3) fun H37=>
 Zb H37 ⟨x6b,4,none⟩ (Value.int .u32 x83c4) fun H38=>
 Zb H38 ⟨x6b,5,none⟩ (Value.bool x83c5) fun H39=>
 Zb H39 ⟨x6b,6,none⟩ (Value.int .u32 x83c6) fun H40=>
 Zb H40 ⟨x6b,7,none⟩ (Value.bool x83c7) fun H41=>
 Zb H41 ⟨x6b,8,none⟩ (Value.bool x83c8) fun H42=>
 Zb H42 ⟨x6b,9,none⟩ (Value.int .u32 x83c9) fun H43=>
 Zb H43 ⟨x6b,10,none⟩ (Value.int .u32 x83c10) fun H44=>
 Zb H44 ⟨x6b,11,none⟩ (Value.slice x83c11a x83c11n x83c11c) fun H45=>
 Zb H45 ⟨x6b,12,none⟩ (Value.slice x83c12a x83c12n x83c12c) fun H46=>
 Zcl bs H33 H46∧Zb H46 ⟨x8b,0,none⟩ (Value.int .i64 0) fun H47=>
 Zb H47 ⟨x8b,1,none⟩ (Value.int .i64 0) fun H48=>
 Zb H48 ⟨x8b,2,none⟩ (Value.slice none 0 0) fun H49=>
 ∃r0c0_1:Int,H49.cell ⟨x6b,0,none⟩=some (Value.int .i64 r0c0_1)∧∃(r0c1a_1:Option Addr) (r0c1n_1 r0c1c_1:Nat),H49.cell ⟨x6b,1,none⟩=some (Value.slice r0c1a_1 r0c1n_1 r0c1c_1)∧∃r0c2_1:Int,H49.cell ⟨x6b,2,none⟩=some (Value.int .u32 r0c2_1)∧∃r0c3_1:Bool,H49.cell ⟨x6b,3,none⟩=some (Value.bool r0c3_1)∧∃r0c4_1:Int,H49.cell ⟨x6b,4,none⟩=some (Value.int .u32 r0c4_1)∧∃r0c5_1:Bool,H49.cell ⟨x6b,5,none⟩=some (Value.bool r0c5_1)∧∃r0c6_1:Int,H49.cell ⟨x6b,6,none⟩=some (Value.int .u32 r0c6_1)∧∃r0c7_1:Bool,H49.cell ⟨x6b,7,none⟩=some (Value.bool r0c7_1)∧∃r0c8_1:Bool,H49.cell ⟨x6b,8,none⟩=some (Value.bool r0c8_1)∧∃r0c9_1:Int,H49.cell ⟨x6b,9,none⟩=some (Value.int .u32 r0c9_1)∧∃r0c10_1:Int,H49.cell ⟨x6b,10,none⟩=some (Value.int .u32 r0c10_1)∧∃(r0c11a_1:Option Addr) (r0c11n_1 r0c11c_1:Nat),H49.cell ⟨x6b,11,none⟩=some (Value.slice r0c11a_1 r0c11n_1 r0c11c_1)∧∃(r0c12a_1:Option Addr) (r0c12n_1 r0c12c_1:Nat),H49.cell ⟨x6b,12,none⟩=some (Value.slice r0c12a_1 r0c12n_1 r0c12c_1)∧∃r2c0_1:Int,H49.cell ⟨x8b,0,none⟩=some (Value.int .i64 r2c0_1)∧∃r2c1_1:Int,H49.cell ⟨x8b,1,none⟩=some (Value.int .i64 r2c1_1)∧∃(r2c2a_1:Option Addr) (r2c2n_1 r2c2c_1:Nat),H49.cell ⟨x8b,2,none⟩=some (Value.slice r2c2a_1 r2c2n_1 r2c2c_1)∧R (Value.tuple ⟨[(Value.agg ⟨[(Value.int .i64 r0c0_1),(Value.slice r0c1a_1 r0c1n_1 r0c1c_1),(Value.int .u32 r0c2_1),(Value.bool r0c3_1),(Value.int .u32 r0c4_1),(Value.bool r0c5_1),(Value.int .u32 r0c6_1),(Value.bool r0c7_1),(Value.bool r0c8_1),(Value.int .u32 r0c9_1),(Value.int .u32 r0c10_1),(Value.slice r0c11a_1 r0c11n_1 r0c11c_1),(Value.slice r0c12a_1 r0c12n_1 r0c12c_1)]⟩),(Value.int .i64 x87),(Value.agg ⟨[(Value.int .i64 r2c0_1),(Value.int .i64 r2c1_1),(Value.slice r2c2a_1 r2c2n_1 r2c2c_1)]⟩)]⟩) H49)
def Zta (x6b:Nat) (x8b:Nat) (x14b:Nat) (next2:((Option Addr×Nat×Nat)×Unit)->Heap->Prop) (H15:Heap) (R:Value->Heap->Prop):Prop:=
 ∃x70:Int,H15.cell ⟨x14b,14,none⟩=some (Value.int .i64 x70)∧
 Zbxl x6b x8b x14b x70 next2 H15 R
def Zlu (x6b:Nat) (x8b:Nat) (x14b:Nat) (next2:((Option Addr×Nat×Nat)×Unit)->Heap->Prop) (x64:Bool) (H13:Heap) (R:Value->Heap->Prop):Prop:=
 IfB x64
 (FnW Tryz.prog Zhk ⟨[(Value.pointer (some ⟨x14b,0,none⟩)),(Value.int .i64 2)]⟩ H13 fun x66v H14=>
 x66v=(Value.tuple ⟨[]⟩)∧
 Zta x6b x8b x14b next2 H14 R)
 (Zta x6b x8b x14b next2 H13 R)
def Zwp (told2:Bool) (x6b:Nat) (x8b:Nat) (x14b:Nat) (next2:((Option Addr×Nat×Nat)×Unit)->Heap->Prop) (H12:Heap) (R:Value->Heap->Prop):Prop:=
 IfB told2
 (InB 1 256 fun x47i=>
 ∃x48:Bool,H12.cell ⟨x14b,15+x47i*1,none⟩=some (Value.bool x48)∧
 IfB x48
 (InB 2 256 fun x53i=>
 ∃x54:Bool,H12.cell ⟨x14b,15+x53i*1,none⟩=some (Value.bool x54)∧
 IfB x54
 (InB 3 256 fun x60i=>
 ∃x61:Bool,H12.cell ⟨x14b,15+x60i*1,none⟩=some (Value.bool x61)∧
 Zlu x6b x8b x14b next2 (!x61) H12 R)
 (Zlu x6b x8b x14b next2 true H12 R))
 (Zlu x6b x8b x14b next2 true H12 R))
 (Zlu x6b x8b x14b next2 false H12 R)
def Zblb (told2:Bool) (x6b:Nat) (x8b:Nat) (x14b:Nat) (b0a_1:Option Addr) (b0n_1:Nat) (b0c_1:Nat) (H4:Heap) (next2:((Option Addr×Nat×Nat)×Unit)->Heap->Prop) (R:Value->Heap->Prop):Prop:=
 IfB (decide (((b0n_1:Int):Int)>0))
 (FnW Tryz.prog Zzq ⟨[(Value.slice b0a_1 b0n_1 b0c_1)]⟩ H4 fun x20v H5=>
 ∃x20r0c0:Int,∃x20r0c1:Int,∃(x20r0c2a:Option Addr) (x20r0c2n x20r0c2c:Nat),∃x20r0c3:Int,∃x20r1:Bool,x20v=(Value.tuple ⟨[(Value.agg ⟨[(Value.int .u8 x20r0c0),(Value.int .i64 x20r0c1),(Value.slice x20r0c2a x20r0c2n x20r0c2c),(Value.int .i64 x20r0c3)]⟩),(Value.bool x20r1)]⟩)∧
 NewW H5 (Obj.cells ⟨[(Value.int .u8 0),(Value.int .i64 0),(Value.slice none 0 0),(Value.int .i64 0)]⟩ Zjj) fun p10b H6=>
 Zb H6 ⟨p10b,0,none⟩ (Value.int .u8 x20r0c0) fun H7=>
 Zb H7 ⟨p10b,1,none⟩ (Value.int .i64 x20r0c1) fun H8=>
 Zb H8 ⟨p10b,2,none⟩ (Value.slice x20r0c2a x20r0c2n x20r0c2c) fun H9=>
 Zb H9 ⟨p10b,3,none⟩ (Value.int .i64 x20r0c3) fun H10=>
 IfB (!x20r1)
 (FnW Tryz.prog Zhk ⟨[(Value.pointer (some ⟨x14b,0,none⟩)),(Value.int .i64 2)]⟩ H10 fun x26v H11=>
 x26v=(Value.tuple ⟨[]⟩)∧
 Zwp told2 x6b x8b x14b next2 H11 R)
 (∃x28c0:Int,H10.cell ⟨p10b,0,none⟩=some (Value.int .u8 x28c0)∧∃x28c1:Int,H10.cell ⟨p10b,1,none⟩=some (Value.int .i64 x28c1)∧∃(x28c2a:Option Addr) (x28c2n x28c2c:Nat),H10.cell ⟨p10b,2,none⟩=some (Value.slice x28c2a x28c2n x28c2c)∧∃x28c3:Int,H10.cell ⟨p10b,3,none⟩=some (Value.int .i64 x28c3)∧FnW Tryz.prog Zpw ⟨[(Value.pointer (some ⟨x14b,0,none⟩)),(Value.agg ⟨[(Value.int .u8 x28c0),(Value.int .i64 x28c1),(Value.slice x28c2a x28c2n x28c2c),(Value.int .i64 x28c3)]⟩)]⟩ H10 fun x29v H50=>
 ∃x29:Bool,x29v=(Value.bool x29)∧
 IfB (!x29)
 (∃x34:Int,H50.cell ⟨p10b,3,none⟩=some (Value.int .i64 x34)∧
 InC x34 b0c_1 fun x35h=>
 FnW Tryz.prog Zqz ⟨[(Value.slice b0a_1 x35h b0c_1)]⟩ H50 fun x36v H51=>
 ∃(x36a:Option Addr) (x36n x36c:Nat),x36v=(Value.slice x36a x36n x36c)∧
 Zb H51 ⟨x6b,0,none⟩ (Value.int .i64 0) fun H52=>
 Zb H52 ⟨x6b,1,none⟩ (Value.slice none 0 0) fun H53=>
 Zb H53 ⟨x6b,2,none⟩ (Value.int .u32 0) fun H54=>
 Zb H54 ⟨x6b,3,none⟩ (Value.bool false) fun H55=>
 Zb H55 ⟨x6b,4,none⟩ (Value.int .u32 0) fun H56=>
 Zb H56 ⟨x6b,5,none⟩ (Value.bool false) fun H57=>
 Zb H57 ⟨x6b,6,none⟩ (Value.int .u32 0) fun H58=>
 Zb H58 ⟨x6b,7,none⟩ (Value.bool false) fun H59=>
 Zb H59 ⟨x6b,8,none⟩ (Value.bool false) fun H60=>
 Zb H60 ⟨x6b,9,none⟩ (Value.int .u32 0) fun H61=>
 Zb H61 ⟨x6b,10,none⟩ (Value.int .u32 0) fun H62=>
 Zb H62 ⟨x6b,11,none⟩ (Value.slice none 0 0) fun H63=>
 Zb H63 ⟨x6b,12,none⟩ (Value.slice none 0 0) fun H64=>
 Zb H64 ⟨x8b,0,none⟩ (Value.int .i64 3) fun H65=>
 Zb H65 ⟨x8b,1,none⟩ (Value.int .i64 2) fun H66=>
 Zb H66 ⟨x8b,2,none⟩ (Value.slice x36a x36n x36c) fun H67=>
 ∃r0c0_2:Int,H67.cell ⟨x6b,0,none⟩=some (Value.int .i64 r0c0_2)∧∃(r0c1a_2:Option Addr) (r0c1n_2 r0c1c_2:Nat),H67.cell ⟨x6b,1,none⟩=some (Value.slice r0c1a_2 r0c1n_2 r0c1c_2)∧∃r0c2_2:Int,H67.cell ⟨x6b,2,none⟩=some (Value.int .u32 r0c2_2)∧∃r0c3_2:Bool,H67.cell ⟨x6b,3,none⟩=some (Value.bool r0c3_2)∧∃r0c4_2:Int,H67.cell ⟨x6b,4,none⟩=some (Value.int .u32 r0c4_2)∧∃r0c5_2:Bool,H67.cell ⟨x6b,5,none⟩=some (Value.bool r0c5_2)∧∃r0c6_2:Int,H67.cell ⟨x6b,6,none⟩=some (Value.int .u32 r0c6_2)∧∃r0c7_2:Bool,H67.cell ⟨x6b,7,none⟩=some (Value.bool r0c7_2)∧∃r0c8_2:Bool,H67.cell ⟨x6b,8,none⟩=some (Value.bool r0c8_2)∧∃r0c9_2:Int,H67.cell ⟨x6b,9,none⟩=some (Value.int .u32 r0c9_2)∧∃r0c10_2:Int,H67.cell ⟨x6b,10,none⟩=some (Value.int .u32 r0c10_2)∧∃(r0c11a_2:Option Addr) (r0c11n_2 r0c11c_2:Nat),H67.cell ⟨x6b,11,none⟩=some (Value.slice r0c11a_2 r0c11n_2 r0c11c_2)∧∃(r0c12a_2:Option Addr) (r0c12n_2 r0c12c_2:Nat),H67.cell ⟨x6b,12,none⟩=some (Value.slice r0c12a_2 r0c12n_2 r0c12c_2)∧∃r2c0_2:Int,H67.cell ⟨x8b,0,none⟩=some (Value.int .i64 r2c0_2)∧∃r2c1_2:Int,H67.cell ⟨x8b,1,none⟩=some (Value.int .i64 r2c1_2)∧∃(r2c2a_2:Option Addr) (r2c2n_2 r2c2c_2:Nat),H67.cell ⟨x8b,2,none⟩=some (Value.slice r2c2a_2 r2c2n_2 r2c2c_2)∧R (Value.tuple ⟨[(Value.agg ⟨[(Value.int .i64 r0c0_2),(Value.slice r0c1a_2 r0c1n_2 r0c1c_2),(Value.int .u32 r0c2_2),(Value.bool r0c3_2),(Value.int .u32 r0c4_2),(Value.bool r0c5_2),(Value.int .u32 r0c6_2),(Value.bool r0c7_2),(Value.bool r0c8_2),(Value.int .u32 r0c9_2),(Value.int .u32 r0c10_2),(Value.slice r0c11a_2 r0c11n_2 r0c11c_2),(Value.slice r0c12a_2 r0c12n_2 r0c12c_2)]⟩),(Value.int .i64 3),(Value.agg ⟨[(Value.int .i64 r2c0_2),(Value.int .i64 r2c1_2),(Value.slice r2c2a_2 r2c2n_2 r2c2c_2)]⟩)]⟩) H67)
 (∃x40:Int,H50.cell ⟨p10b,3,none⟩=some (Value.int .i64 x40)∧
 InC x40 b0n_1 fun x41l=>
 next2 (((if b0c_1=x41l then b0a_1 else Option.map (fun a=>Addr.add a (x41l*1)) b0a_1),b0n_1 - x41l,b0c_1 - x41l),()) H50)))
 (Zwp told2 x6b x8b x14b next2 H4 R)
def Zbqp (b0a:Option Addr) (b0n:Nat) (b0c:Nat) (four1:Bool) (told2:Bool) (H:Heap) (R:Value->Heap->Prop):Prop:=
 NewW H (Obj.cells ⟨[(Value.int .i64 0),(Value.slice none 0 0),(Value.int .u32 0),(Value.bool false),(Value.int .u32 0),(Value.bool false),(Value.int .u32 0),(Value.bool false),(Value.bool false),(Value.int .u32 0),(Value.int .u32 0),(Value.slice none 0 0),(Value.slice none 0 0)]⟩ Zcu) fun x6b H1=>
 NewW H1 (Obj.cells ⟨[(Value.int .i64 0),(Value.int .i64 0),(Value.slice none 0 0)]⟩ Zdq) fun x8b H2=>
 NewW H2 (Obj.cells ⟨(setL Zbap 13 [(Value.bool four1)])⟩ Zds) fun x14b H3=>
 Zgk ((Option Addr×Nat×Nat)×Unit) ((b0a,b0n,b0c),()) H3 fun x H next=>∀_g:Env,Zblb told2 x6b x8b x14b x.1.1 x.1.2.1 x.1.2.2 H next R
theorem Zcqr (b0a:Option Addr) (b0n:Nat) (b0c:Nat) (four1:Bool) (told2:Bool) (H:Heap) (R:Value->Heap->Prop):Zbqp b0a b0n b0c four1 told2 H R=Zc Tryz.prog Zbok (Zg Tryz.f12) (env0 [(Value.slice b0a b0n b0c),(Value.bool four1),(Value.bool told2)]) H (RetW Tryz.prog Tryz.f12.results.toList R):=by kernel_rfl
theorem Zcip (b0a:Option Addr) (b0n:Nat) (b0c:Nat) (four1:Bool) (told2:Bool) {H:Heap} {R:Value->Heap->Prop} (h:Zbqp b0a b0n b0c four1 told2 H fun v H1=>∀H2,Shut H H1 H2->R v H2):FnW Tryz.prog Zmc ⟨[(Value.slice b0a b0n b0c),(Value.bool four1),(Value.bool told2)]⟩ H R:=FnW.of_code Zcjy (by kernel_rfl) (Eq.mp (Zcqr b0a b0n b0c four1 told2 H _) h)
def Zbui:Plan:=⟨[],[],[],[]⟩
theorem Zckq:Known Tryz.prog Zhk Tryz.f24 Zbui (Zg Tryz.f24):=by refine ⟨Tryz.func24,?_,?_,?_,?_,?_⟩<;>kernel_rfl
def Zbmg (r0b:Nat) (worth1:Int) (H:Heap) (R:Value->Heap->Prop):Prop:=
 ∃x8:Int,H.cell ⟨r0b,14,none⟩=some (Value.int .i64 x8)∧
 Zb H ⟨r0b,14,none⟩ (Value.int .i64 (max x8 worth1)) fun H1=>
 R (Value.tuple ⟨[]⟩) H1
theorem Zcfz (r0b:Nat) (worth1:Int) (H:Heap) (R:Value->Heap->Prop):Zbmg r0b worth1 H R=Zc Tryz.prog Zbui (Zg Tryz.f24) (env0 [(Value.pointer (some ⟨r0b,0,none⟩)),(Value.int .i64 worth1)]) H (RetW Tryz.prog Tryz.f24.results.toList R):=by kernel_rfl
theorem Zcvi (r0b:Nat) (worth1:Int) {H:Heap} {R:Value->Heap->Prop} (h:Zbmg r0b worth1 H fun v H1=>∀H2,Shut H H1 H2->R v H2):FnW Tryz.prog Zhk ⟨[(Value.pointer (some ⟨r0b,0,none⟩)),(Value.int .i64 worth1)]⟩ H R:=FnW.of_code Zckq (by kernel_rfl) (Eq.mp (Zcfz r0b worth1 H _) h)
def Zbjd:Plan:=⟨[],[],[],[]⟩
theorem Zcsi:Known Tryz.prog Zpw Tryz.f25 Zbjd (Zg Tryz.f25):=by refine ⟨Tryz.func25,?_,?_,?_,?_,?_⟩<;>kernel_rfl
def Zbmx (H8:Heap) (R:Value->Heap->Prop):Prop:=
 R (Value.bool true) H8
def Zbqm (r0b:Nat) (x74:Bool) (H12:Heap) (R:Value->Heap->Prop):Prop:=
 IfB (!x74)
 (FnW Tryz.prog Zhk ⟨[(Value.pointer (some ⟨r0b,0,none⟩)),(Value.int .i64 1)]⟩ H12 fun x77v H13=>
 x77v=(Value.tuple ⟨[]⟩)∧
 R (Value.bool true) H13)
 (R (Value.bool true) H12)
def Zbns (r0b:Nat) (x63:Bool) (H15:Heap) (R:Value->Heap->Prop):Prop:=
 IfB (!x63)
 (FnW Tryz.prog Zhk ⟨[(Value.pointer (some ⟨r0b,0,none⟩)),(Value.int .i64 2)]⟩ H15 fun x66v H16=>
 x66v=(Value.tuple ⟨[]⟩)∧
 R (Value.bool true) H16)
 (R (Value.bool true) H15)
def Zjx (r0b:Nat) (p3b:Nat) (x67:Bool) (H10:Heap) (R:Value->Heap->Prop):Prop:=
 IfB x67
 (∃x73c0:Int,H10.cell ⟨p3b,0,none⟩=some (Value.int .u8 x73c0)∧∃x73c1:Int,H10.cell ⟨p3b,1,none⟩=some (Value.int .i64 x73c1)∧∃(x73c2a:Option Addr) (x73c2n x73c2c:Nat),H10.cell ⟨p3b,2,none⟩=some (Value.slice x73c2a x73c2n x73c2c)∧∃x73c3:Int,H10.cell ⟨p3b,3,none⟩=some (Value.int .i64 x73c3)∧FnW Tryz.prog Zyj ⟨[(Value.pointer (some ⟨r0b,0,none⟩)),(Value.agg ⟨[(Value.int .u8 x73c0),(Value.int .i64 x73c1),(Value.slice x73c2a x73c2n x73c2c),(Value.int .i64 x73c3)]⟩)]⟩ H10 fun x74v H11=>
 ∃x74:Bool,x74v=(Value.bool x74)∧
 Zbqm r0b x74 H11 R)
 (∃x62c0:Int,H10.cell ⟨p3b,0,none⟩=some (Value.int .u8 x62c0)∧∃x62c1:Int,H10.cell ⟨p3b,1,none⟩=some (Value.int .i64 x62c1)∧∃(x62c2a:Option Addr) (x62c2n x62c2c:Nat),H10.cell ⟨p3b,2,none⟩=some (Value.slice x62c2a x62c2n x62c2c)∧∃x62c3:Int,H10.cell ⟨p3b,3,none⟩=some (Value.int .i64 x62c3)∧FnW Tryz.prog Zxy ⟨[(Value.pointer (some ⟨r0b,0,none⟩)),(Value.agg ⟨[(Value.int .u8 x62c0),(Value.int .i64 x62c1),(Value.slice x62c2a x62c2n x62c2c),(Value.int .i64 x62c3)]⟩)]⟩ H10 fun x63v H14=>
 ∃x63:Bool,x63v=(Value.bool x63)∧
 Zbns r0b x63 H14 R)
def Zbaf (r0b:Nat) (p3b:Nat) (x25r0:Int) (x25r1:Bool) (x37:Bool) (H6:Heap) (R:Value->Heap->Prop):Prop:=
 IfB x37
 (∃x55c0:Int,H6.cell ⟨p3b,0,none⟩=some (Value.int .u8 x55c0)∧∃x55c1:Int,H6.cell ⟨p3b,1,none⟩=some (Value.int .i64 x55c1)∧∃(x55c2a:Option Addr) (x55c2n x55c2c:Nat),H6.cell ⟨p3b,2,none⟩=some (Value.slice x55c2a x55c2n x55c2c)∧∃x55c3:Int,H6.cell ⟨p3b,3,none⟩=some (Value.int .i64 x55c3)∧FnW Tryz.prog Zua ⟨[(Value.pointer (some ⟨r0b,0,none⟩)),(Value.agg ⟨[(Value.int .u8 x55c0),(Value.int .i64 x55c1),(Value.slice x55c2a x55c2n x55c2c),(Value.int .i64 x55c3)]⟩)]⟩ H6 fun x56v H7=>
 x56v=(Value.tuple ⟨[]⟩)∧
 Zbmx H7 R)
 (IfB (!x25r1)
 (Zbmx H6 R)
 (∃x52:Int,H6.cell ⟨p3b,0,none⟩=some (Value.int .u8 x52)∧
 IfB ((x25r0:Int) !=x52)
 (FnW Tryz.prog Zhk ⟨[(Value.pointer (some ⟨r0b,0,none⟩)),(Value.int .i64 2)]⟩ H6 fun x58v H9=>
 x58v=(Value.tuple ⟨[]⟩)∧
 R (Value.bool true) H9)
 (∃x60:Int,H6.cell ⟨p3b,1,none⟩=some (Value.int .i64 x60)∧
 IfB ((x60:Int)==6)
 (Zjx r0b p3b ((x60:Int)==6) H6 R)
 (IfB ((x60:Int)==7)
 (Zjx r0b p3b ((x60:Int)==7) H6 R)
 (IfB ((x60:Int)==17)
 (Zjx r0b p3b ((x60:Int)==17) H6 R)
 (Zjx r0b p3b ((x60:Int)==18) H6 R))))))
def Zug (r0b:Nat) (p3b:Nat) (x25r0:Int) (x25r1:Bool) (x28:Bool) (H5:Heap) (R:Value->Heap->Prop):Prop:=
 IfB x28
 (R (Value.bool false) H5)
 (IfB (!x25r1)
 (∃x42:Int,H5.cell ⟨p3b,0,none⟩=some (Value.int .u8 x42)∧
 Zbaf r0b p3b x25r0 x25r1 (((Zft .u8 x42 64):Int) !=0) H5 R)
 (Zbaf r0b p3b x25r0 x25r1 false H5 R))
def Zbjk (r0b:Nat) (p1c0:Int) (p1c1:Int) (p1c2a:Option Addr) (p1c2n:Nat) (p1c2c:Nat) (p1c3:Int) (H:Heap) (R:Value->Heap->Prop):Prop:=
 NewW H (Obj.cells ⟨[(Value.int .u8 p1c0),(Value.int .i64 p1c1),(Value.slice p1c2a p1c2n p1c2c),(Value.int .i64 p1c3)]⟩ Zjj) fun p3b H1=>
 ∃x9:Int,H1.cell ⟨p3b,1,none⟩=some (Value.int .i64 x9)∧
 InB x9 256 fun x12i=>
 ∃x13:Bool,H1.cell ⟨r0b,15+x12i*1,none⟩=some (Value.bool x13)∧
 IfB x13
 (FnW Tryz.prog Zhk ⟨[(Value.pointer (some ⟨r0b,0,none⟩)),(Value.int .i64 1)]⟩ H1 fun x15v H2=>
 x15v=(Value.tuple ⟨[]⟩)∧
 R (Value.bool true) H2)
 (∃x18:Int,H1.cell ⟨p3b,1,none⟩=some (Value.int .i64 x18)∧
 InB x18 256 fun x21i=>
 Zb H1 ⟨r0b,15+x21i*1,none⟩ (Value.bool true) fun H3=>
 ∃x24:Int,H3.cell ⟨p3b,1,none⟩=some (Value.int .i64 x24)∧
 FnW Tryz.prog Zzw ⟨[(Value.int .i64 x24)]⟩ H3 fun x25v H4=>
 ∃x25r0:Int,∃x25r1:Bool,x25v=(Value.tuple ⟨[(Value.int .u8 x25r0),(Value.bool x25r1)]⟩)∧
 IfB (!x25r1)
 (∃x33:Int,H4.cell ⟨p3b,0,none⟩=some (Value.int .u8 x33)∧
 Zug r0b p3b x25r0 x25r1 (((Zft .u8 x33 128):Int)==0) H4 R)
 (Zug r0b p3b x25r0 x25r1 false H4 R))
theorem Zcie (r0b:Nat) (p1c0:Int) (p1c1:Int) (p1c2a:Option Addr) (p1c2n:Nat) (p1c2c:Nat) (p1c3:Int) (H:Heap) (R:Value->Heap->Prop):Zbjk r0b p1c0 p1c1 p1c2a p1c2n p1c2c p1c3 H R=Zc Tryz.prog Zbjd (Zg Tryz.f25) (env0 [(Value.pointer (some ⟨r0b,0,none⟩)),(Value.agg ⟨[(Value.int .u8 p1c0),(Value.int .i64 p1c1),(Value.slice p1c2a p1c2n p1c2c),(Value.int .i64 p1c3)]⟩)]) H (RetW Tryz.prog Tryz.f25.results.toList R):=by kernel_rfl
theorem Zcbd (r0b:Nat) (p1c0:Int) (p1c1:Int) (p1c2a:Option Addr) (p1c2n:Nat) (p1c2c:Nat) (p1c3:Int) {H:Heap} {R:Value->Heap->Prop} (h:Zbjk r0b p1c0 p1c1 p1c2a p1c2n p1c2c p1c3 H fun v H1=>∀H2,Shut H H1 H2->R v H2):FnW Tryz.prog Zpw ⟨[(Value.pointer (some ⟨r0b,0,none⟩)),(Value.agg ⟨[(Value.int .u8 p1c0),(Value.int .i64 p1c1),(Value.slice p1c2a p1c2n p1c2c),(Value.int .i64 p1c3)]⟩)]⟩ H R:=FnW.of_code Zcsi (by kernel_rfl) (Eq.mp (Zcie r0b p1c0 p1c1 p1c2a p1c2n p1c2c p1c3 H _) h)
def Zbrm:Plan:=⟨[(2,[0,1,2,3,4,5,7,8,9,10,11,6,12,13,14,15,16,17,18,19,20],[1000000,38])],[],[],[]⟩
theorem Zcqg:Known Tryz.prog Zsv Tryz.f27 Zbrm (Zg Tryz.f27):=by refine ⟨Tryz.func27,?_,?_,?_,?_,?_⟩<;>kernel_rfl
def Zbaj (r0b:Nat) (H7:Heap) (R:Value->Heap->Prop):Prop:=
 ∃x50:Bool,H7.cell ⟨r0b,273,none⟩=some (Value.bool x50)∧
 IfB (!x50)
 (R (Value.tuple ⟨[]⟩) H7)
 (∃(x56a:Option Addr) (x56n x56c:Nat),H7.cell ⟨r0b,1,none⟩=some (Value.slice x56a x56n x56c)∧
 ∃(x60a:Option Addr) (x60n x60c:Nat),H7.cell ⟨r0b,271,none⟩=some (Value.slice x60a x60n x60c)∧
 FnW Tryz.prog Ztf ⟨[(Value.slice x56a x56n x56c),(Value.slice x60a x60n x60c)]⟩ H7 fun x61v H8=>
 ∃(x61a:Option Addr) (x61n x61c:Nat),x61v=(Value.slice x61a x61n x61c)∧
 FnW Tryz.prog Zms ⟨[(Value.slice x61a x61n x61c)]⟩ H8 fun x63v H9=>
 ∃x63:Int,x63v=(Value.int .i64 x63)∧
 IfB ((x63:Int)==0)
 (Zb H9 ⟨r0b,1,none⟩ (Value.slice x61a x61n x61c) fun H10=>
 R (Value.tuple ⟨[]⟩) H10)
 (R (Value.tuple ⟨[]⟩) H9))
def Zqx (r0b:Nat) (x27:Bool) (H2:Heap) (R:Value->Heap->Prop):Prop:=
 IfB x27
 (∃bs:List Nat,(∀b∈bs,∃o,H2 b=some o)∧
 ∃(x33a:Option Addr) (x33n x33c:Nat),H2.cell ⟨r0b,272,none⟩=some (Value.slice x33a x33n x33c)∧
 r0b∈bs∧∃(x38a:Option Addr) (x38n x38c:Nat),H2.cell ⟨r0b,272,none⟩=some (Value.slice x38a x38n x38c)∧
 InC 4 x38n fun x39l=>
 FnW Tryz.prog Zhf ⟨[(Value.slice x33a x33n x33c)]⟩ H2 fun x34v H3=>
 ∃x34:Int,x34v=(Value.int .u32 x34)∧
 Zcl bs H2 H3∧FnW Tryz.prog Zhf ⟨[(Value.slice (if x38c=x39l then x38a else Option.map (fun a=>Addr.add a (x39l*1)) x38a) (x38n - x39l) (x38c - x39l))]⟩ H3 fun x40v H4=>
 ∃x40:Int,x40v=(Value.int .u32 x40)∧
 Zcl bs H2 H4∧Zb H4 ⟨r0b,9,none⟩ (Value.int .u32 x34) fun H5=>
 Zb H5 ⟨r0b,10,none⟩ (Value.int .u32 x40) fun H6=>
 Zbaj r0b H6 R)
 (Zbaj r0b H2 R)
def Zbam (r0b:Nat) (x15:Bool) (H1:Heap) (R:Value->Heap->Prop):Prop:=
 IfB x15
 (R (Value.tuple ⟨[]⟩) H1)
 (∃x20:Bool,H1.cell ⟨r0b,8,none⟩=some (Value.bool x20)∧
 IfB x20
 (∃(x25a:Option Addr) (x25n x25c:Nat),H1.cell ⟨r0b,272,none⟩=some (Value.slice x25a x25n x25c)∧
 Zqx r0b (!x25a.isNone) H1 R)
 (Zqx r0b false H1 R))
def Zbtv (r0b:Nat) (H:Heap) (R:Value->Heap->Prop):Prop:=
 ∃x7:Bool,H.cell ⟨r0b,8,none⟩=some (Value.bool x7)∧
 IfB x7
 (∃x13:Int,H.cell ⟨r0b,9,none⟩=some (Value.int .u32 x13)∧
 Zbam r0b ((x13:Int) !=23456) H R)
 (Zbam r0b false H R)
theorem Zcdo (r0b:Nat) (H:Heap) (R:Value->Heap->Prop):Zbtv r0b H R=Zc Tryz.prog Zbrm (Zg Tryz.f27) (env0 [(Value.pointer (some ⟨r0b,0,none⟩))]) H (RetW Tryz.prog Tryz.f27.results.toList R):=by kernel_rfl
theorem Zbyn (r0b:Nat) {H:Heap} {R:Value->Heap->Prop} (h:Zbtv r0b H fun v H1=>∀H2,Shut H H1 H2->R v H2):FnW Tryz.prog Zsv ⟨[(Value.pointer (some ⟨r0b,0,none⟩))]⟩ H R:=FnW.of_code Zcqg (by kernel_rfl) (Eq.mp (Zcdo r0b H _) h)
def Zbqt:Plan:=⟨[(6,[0,1,2,3,4,5,6,7,8,9,10,11,12,13,14,15,16,17,18],[40,43])],[],[],[]⟩
theorem Zctu:Known Tryz.prog Zua Tryz.f46 Zbqt (Zg Tryz.f46):=by refine ⟨Tryz.func46,?_,?_,?_,?_,?_⟩<;>kernel_rfl
def Zvj (r0b:Nat) (p3b:Nat) (k4:Int) (H5:Heap) (R:Value->Heap->Prop):Prop:=
 ∃bs:List Nat,(∀b∈bs,∃o,H5 b=some o)∧
 r0b∈bs∧∃(x40a:Option Addr) (x40n x40c:Nat),H5.cell ⟨r0b,12,none⟩=some (Value.slice x40a x40n x40c)∧
 p3b∈bs∧∃x43:Int,H5.cell ⟨p3b,1,none⟩=some (Value.int .i64 x43)∧
 ∃(x45a:Option Addr) (x45n x45c:Nat),H5.cell ⟨p3b,2,none⟩=some (Value.slice x45a x45n x45c)∧
 FnW Tryz.prog Zqz ⟨[(Value.slice x45a x45n x45c)]⟩ H5 fun x46v H6=>
 ∃(x46a:Option Addr) (x46n x46c:Nat),x46v=(Value.slice x46a x46n x46c)∧
 Zcl bs H5 H6∧NewW H6 (Obj.cells ⟨[(Value.int .i64 x43),(Value.slice x46a x46n x46c)]⟩ Zbw) fun x48b H7=>
 FnW Tryz.prog Zuq ⟨[(Value.slice x40a x40n x40c),(Value.int .i64 k4),(Value.slice (some ⟨x48b,0,none⟩) 1 1)]⟩ H7 fun x49v H8=>
 ∃(x49a:Option Addr) (x49n x49c:Nat),x49v=(Value.slice x49a x49n x49c)∧
 Zcl bs H5 H8∧Zb H8 ⟨r0b,12,none⟩ (Value.slice x49a x49n x49c) fun H9=>
 R (Value.tuple ⟨[]⟩) H9
def Zsm (r0b:Nat) (p3b:Nat) (x17:Bool) (H2:Heap) (R:Value->Heap->Prop):Prop:=
 IfB x17
 (FnW Tryz.prog Zhk ⟨[(Value.pointer (some ⟨r0b,0,none⟩)),(Value.int .i64 1)]⟩ H2 fun x19v H3=>
 x19v=(Value.tuple ⟨[]⟩)∧
 R (Value.tuple ⟨[]⟩) H3)
 (∃(x24a:Option Addr) (x24n x24c:Nat),H2.cell ⟨r0b,12,none⟩=some (Value.slice x24a x24n x24c)∧
 FnW Tryz.prog Zwo ⟨[(Value.slice x24a x24n x24c),(Value.func (.func Zro) #[] #[(Value.pointer (some ⟨p3b,0,none⟩))])]⟩ H2 fun x26v H4=>
 ∃x26:Int,x26v=(Value.int .i64 x26)∧
 IfB (decide ((x26:Int)<0))
 (∃(x33a:Option Addr) (x33n x33c:Nat),H4.cell ⟨r0b,12,none⟩=some (Value.slice x33a x33n x33c)∧
 Zvj r0b p3b (x33n:Int) H4 R)
 (Zvj r0b p3b x26 H4 R))
def Zbir (r0b:Nat) (p1c0:Int) (p1c1:Int) (p1c2a:Option Addr) (p1c2n:Nat) (p1c2c:Nat) (p1c3:Int) (H:Heap) (R:Value->Heap->Prop):Prop:=
 NewW H (Obj.cells ⟨[(Value.int .u8 p1c0),(Value.int .i64 p1c1),(Value.slice p1c2a p1c2n p1c2c),(Value.int .i64 p1c3)]⟩ Zjj) fun p3b H1=>
 ∃(x9a:Option Addr) (x9n x9c:Nat),H1.cell ⟨r0b,12,none⟩=some (Value.slice x9a x9n x9c)∧
 IfB (decide (((x9n:Int):Int)≥8))
 (Zsm r0b p3b true H1 R)
 (∃(x14a:Option Addr) (x14n x14c:Nat),H1.cell ⟨p3b,2,none⟩=some (Value.slice x14a x14n x14c)∧
 Zsm r0b p3b (decide (((x14n:Int):Int)>255)) H1 R)
theorem Zcbc (r0b:Nat) (p1c0:Int) (p1c1:Int) (p1c2a:Option Addr) (p1c2n:Nat) (p1c2c:Nat) (p1c3:Int) (H:Heap) (R:Value->Heap->Prop):Zbir r0b p1c0 p1c1 p1c2a p1c2n p1c2c p1c3 H R=Zc Tryz.prog Zbqt (Zg Tryz.f46) (env0 [(Value.pointer (some ⟨r0b,0,none⟩)),(Value.agg ⟨[(Value.int .u8 p1c0),(Value.int .i64 p1c1),(Value.slice p1c2a p1c2n p1c2c),(Value.int .i64 p1c3)]⟩)]) H (RetW Tryz.prog Tryz.f46.results.toList R):=by kernel_rfl
theorem Zcau (r0b:Nat) (p1c0:Int) (p1c1:Int) (p1c2a:Option Addr) (p1c2n:Nat) (p1c2c:Nat) (p1c3:Int) {H:Heap} {R:Value->Heap->Prop} (h:Zbir r0b p1c0 p1c1 p1c2a p1c2n p1c2c p1c3 H fun v H1=>∀H2,Shut H H1 H2->R v H2):FnW Tryz.prog Zua ⟨[(Value.pointer (some ⟨r0b,0,none⟩)),(Value.agg ⟨[(Value.int .u8 p1c0),(Value.int .i64 p1c1),(Value.slice p1c2a p1c2n p1c2c),(Value.int .i64 p1c3)]⟩)]⟩ H R:=FnW.of_code Zctu (by kernel_rfl) (Eq.mp (Zcbc r0b p1c0 p1c1 p1c2a p1c2n p1c2c p1c3 H _) h)
def Zbji:Plan:=⟨[],[],[],[]⟩
theorem Zcne:Known Tryz.prog Zyj Tryz.f47 Zbji (Zg Tryz.f47):=by refine ⟨Tryz.func47,?_,?_,?_,?_,?_⟩<;>kernel_rfl
def Zboi (r0b:Nat) (x9a:Option Addr) (x9n:Nat) (x9c:Nat) (x60:Bool) (H7:Heap) (R:Value->Heap->Prop):Prop:=
 IfB x60
 (R (Value.bool false) H7)
 (Zb H7 ⟨r0b,272,none⟩ (Value.slice x9a x9n x9c) fun H8=>
 R (Value.bool true) H8)
def Zble (r0b:Nat) (p1c0:Int) (p1c1:Int) (p1c2a:Option Addr) (p1c2n:Nat) (p1c2c:Nat) (p1c3:Int) (H:Heap) (R:Value->Heap->Prop):Prop:=
 NewW H (Obj.cells ⟨[(Value.int .u8 p1c0),(Value.int .i64 p1c1),(Value.slice p1c2a p1c2n p1c2c),(Value.int .i64 p1c3)]⟩ Zjj) fun p3b H1=>
 ∃(x9a:Option Addr) (x9n x9c:Nat),H1.cell ⟨p3b,2,none⟩=some (Value.slice x9a x9n x9c)∧
 ∃x11:Int,H1.cell ⟨p3b,1,none⟩=some (Value.int .i64 x11)∧
 IfB ((x11:Int)==6)
 (Zb H1 ⟨r0b,7,none⟩ (Value.bool (((x9n:Int):Int)==0)) fun H2=>
 ∃x25:Bool,H2.cell ⟨r0b,7,none⟩=some (Value.bool x25)∧
 R (Value.bool x25) H2)
 (IfB ((x11:Int)==7)
 (FnW Tryz.prog Ztz ⟨[(Value.pointer (some ⟨r0b,0,none⟩)),(Value.slice x9a x9n x9c)]⟩ H1 fun x30v H3=>
 ∃x30:Bool,x30v=(Value.bool x30)∧
 R (Value.bool x30) H3)
 (IfB ((x11:Int)==17)
 (∃x36:Bool,H1.cell ⟨r0b,13,none⟩=some (Value.bool x36)∧
 IfB x36
 (R (Value.bool true) H1)
 (FnW Tryz.prog Zpd ⟨[(Value.slice x9a x9n x9c),(Value.bool true)]⟩ H1 fun x39v H4=>
 ∃(x39r0a:Option Addr) (x39r0n x39r0c:Nat),∃x39r1:Int,x39v=(Value.tuple ⟨[(Value.slice x39r0a x39r0n x39r0c),(Value.int .i64 x39r1)]⟩)∧
 Zb H4 ⟨r0b,271,none⟩ (Value.slice x39r0a x39r0n x39r0c) fun H5=>
 Zb H5 ⟨r0b,273,none⟩ (Value.bool ((x39r1:Int)==0)) fun H6=>
 ∃x54:Bool,H6.cell ⟨r0b,273,none⟩=some (Value.bool x54)∧
 R (Value.bool x54) H6))
 (∃x59:Bool,H1.cell ⟨r0b,13,none⟩=some (Value.bool x59)∧
 IfB x59
 (R (Value.bool true) H1)
 (IfB (((x9n:Int):Int) !=8)
 (Zboi r0b x9a x9n x9c true H1 R)
 (FnW Tryz.prog Zhf ⟨[(Value.slice x9a x9n x9c)]⟩ H1 fun x66v H9=>
 ∃x66:Int,x66v=(Value.int .u32 x66)∧
 Zboi r0b x9a x9n x9c ((x66:Int)==0) H9 R)))))
theorem Zchs (r0b:Nat) (p1c0:Int) (p1c1:Int) (p1c2a:Option Addr) (p1c2n:Nat) (p1c2c:Nat) (p1c3:Int) (H:Heap) (R:Value->Heap->Prop):Zble r0b p1c0 p1c1 p1c2a p1c2n p1c2c p1c3 H R=Zc Tryz.prog Zbji (Zg Tryz.f47) (env0 [(Value.pointer (some ⟨r0b,0,none⟩)),(Value.agg ⟨[(Value.int .u8 p1c0),(Value.int .i64 p1c1),(Value.slice p1c2a p1c2n p1c2c),(Value.int .i64 p1c3)]⟩)]) H (RetW Tryz.prog Tryz.f47.results.toList R):=by kernel_rfl
theorem Zcrr (r0b:Nat) (p1c0:Int) (p1c1:Int) (p1c2a:Option Addr) (p1c2n:Nat) (p1c2c:Nat) (p1c3:Int) {H:Heap} {R:Value->Heap->Prop} (h:Zble r0b p1c0 p1c1 p1c2a p1c2n p1c2c p1c3 H fun v H1=>∀H2,Shut H H1 H2->R v H2):FnW Tryz.prog Zyj ⟨[(Value.pointer (some ⟨r0b,0,none⟩)),(Value.agg ⟨[(Value.int .u8 p1c0),(Value.int .i64 p1c1),(Value.slice p1c2a p1c2n p1c2c),(Value.int .i64 p1c3)]⟩)]⟩ H R:=FnW.of_code Zcne (by kernel_rfl) (Eq.mp (Zchs r0b p1c0 p1c1 p1c2a p1c2n p1c2c p1c3 H _) h)
def Zbkg:Plan:=⟨[],[],[],[]⟩
theorem Zcuu:Known Tryz.prog Zxy Tryz.f48 Zbkg (Zg Tryz.f48):=by refine ⟨Tryz.func48,?_,?_,?_,?_,?_⟩<;>kernel_rfl
def Zbdv (r0b:Nat) (x9a:Option Addr) (x9n:Nat) (x9c:Nat) (x22:Bool) (H2:Heap) (R:Value->Heap->Prop):Prop:=
 IfB x22
 (R (Value.bool false) H2)
 (NilP x9a fun x25q=>
 InB 0 x9n fun x25i=>
 elemAt x25q x25i 1 fun x25p=>
 ∃x26:Int,H2.cell x25p=some (Value.int .u8 x26)∧
 Zb H2 ⟨r0b,0,none⟩ (Value.int .i64 (IntKind.wrap .i64 x26)) fun H3=>
 R (Value.bool true) H3)
def Zbga (r0b:Nat) (x9a:Option Addr) (x9n:Nat) (x9c:Nat) (x59:Bool) (H6:Heap) (R:Value->Heap->Prop):Prop:=
 IfB x59
 (R (Value.bool false) H6)
 (FnW Tryz.prog Zhf ⟨[(Value.slice x9a x9n x9c)]⟩ H6 fun x62v H7=>
 ∃x62:Int,x62v=(Value.int .u32 x62)∧
 Zb H7 ⟨r0b,2,none⟩ (Value.int .u32 x62) fun H8=>
 R (Value.bool true) H8)
def Zboe (r0b:Nat) (p1c0:Int) (p1c1:Int) (p1c2a:Option Addr) (p1c2n:Nat) (p1c2c:Nat) (p1c3:Int) (H:Heap) (R:Value->Heap->Prop):Prop:=
 NewW H (Obj.cells ⟨[(Value.int .u8 p1c0),(Value.int .i64 p1c1),(Value.slice p1c2a p1c2n p1c2c),(Value.int .i64 p1c3)]⟩ Zjj) fun p3b H1=>
 ∃(x9a:Option Addr) (x9n x9c:Nat),H1.cell ⟨p3b,2,none⟩=some (Value.slice x9a x9n x9c)∧
 ∃x11:Int,H1.cell ⟨p3b,1,none⟩=some (Value.int .i64 x11)∧
 IfB ((x11:Int)==1)
 (IfB (((x9n:Int):Int) !=1)
 (Zbdv r0b x9a x9n x9c true H1 R)
 (NilP x9a fun x19q=>
 InB 0 x9n fun x19i=>
 elemAt x19q x19i 1 fun x19p=>
 ∃x20:Int,H1.cell x19p=some (Value.int .u8 x20)∧
 Zbdv r0b x9a x9n x9c (decide ((x20:Int)>2)) H1 R))
 (IfB ((x11:Int)==2)
 (∃x38:Bool,H1.cell ⟨r0b,13,none⟩=some (Value.bool x38)∧
 FnW Tryz.prog Zpd ⟨[(Value.slice x9a x9n x9c),(Value.bool x38)]⟩ H1 fun x39v H4=>
 ∃(x39r0a:Option Addr) (x39r0n x39r0c:Nat),∃x39r1:Int,x39v=(Value.tuple ⟨[(Value.slice x39r0a x39r0n x39r0c),(Value.int .i64 x39r1)]⟩)∧
 Zb H4 ⟨r0b,1,none⟩ (Value.slice x39r0a x39r0n x39r0c) fun H5=>
 R (Value.bool ((x39r1:Int)==0)) H5)
 (IfB ((x11:Int)==3)
 (IfB (((x9n:Int):Int) !=4)
 (Zbga r0b x9a x9n x9c true H1 R)
 (FnW Tryz.prog Zhf ⟨[(Value.slice x9a x9n x9c)]⟩ H1 fun x56v H9=>
 ∃x56:Int,x56v=(Value.int .u32 x56)∧
 FnW Tryz.prog Zwl ⟨[(Value.int .u32 x56)]⟩ H9 fun x57v H10=>
 ∃x57:Bool,x57v=(Value.bool x57)∧
 Zbga r0b x9a x9n x9c (!x57) H10 R))
 (IfB ((x11:Int)==4)
 (IfB (((x9n:Int):Int) !=4)
 (R (Value.bool false) H1)
 (FnW Tryz.prog Zhf ⟨[(Value.slice x9a x9n x9c)]⟩ H1 fun x74v H11=>
 ∃x74:Int,x74v=(Value.int .u32 x74)∧
 Zb H11 ⟨r0b,3,none⟩ (Value.bool true) fun H12=>
 Zb H12 ⟨r0b,4,none⟩ (Value.int .u32 x74) fun H13=>
 R (Value.bool true) H13))
 (IfB ((x11:Int)==8)
 (FnW Tryz.prog Zbhy ⟨[(Value.pointer (some ⟨r0b,0,none⟩)),(Value.slice x9a x9n x9c)]⟩ H1 fun x85v H14=>
 ∃x85:Bool,x85v=(Value.bool x85)∧
 R (Value.bool x85) H14)
 (R (Value.bool true) H1)))))
theorem Zckx (r0b:Nat) (p1c0:Int) (p1c1:Int) (p1c2a:Option Addr) (p1c2n:Nat) (p1c2c:Nat) (p1c3:Int) (H:Heap) (R:Value->Heap->Prop):Zboe r0b p1c0 p1c1 p1c2a p1c2n p1c2c p1c3 H R=Zc Tryz.prog Zbkg (Zg Tryz.f48) (env0 [(Value.pointer (some ⟨r0b,0,none⟩)),(Value.agg ⟨[(Value.int .u8 p1c0),(Value.int .i64 p1c1),(Value.slice p1c2a p1c2n p1c2c),(Value.int .i64 p1c3)]⟩)]) H (RetW Tryz.prog Tryz.f48.results.toList R):=by kernel_rfl
theorem Zckk (r0b:Nat) (p1c0:Int) (p1c1:Int) (p1c2a:Option Addr) (p1c2n:Nat) (p1c2c:Nat) (p1c3:Int) {H:Heap} {R:Value->Heap->Prop} (h:Zboe r0b p1c0 p1c1 p1c2a p1c2n p1c2c p1c3 H fun v H1=>∀H2,Shut H H1 H2->R v H2):FnW Tryz.prog Zxy ⟨[(Value.pointer (some ⟨r0b,0,none⟩)),(Value.agg ⟨[(Value.int .u8 p1c0),(Value.int .i64 p1c1),(Value.slice p1c2a p1c2n p1c2c),(Value.int .i64 p1c3)]⟩)]⟩ H R:=FnW.of_code Zcuu (by kernel_rfl) (Eq.mp (Zckx r0b p1c0 p1c1 p1c2a p1c2n p1c2c p1c3 H _) h)
def Zbxt:Plan:=⟨[],[(8,[6,22],[.int .u32,.int .i64],[0,1,5,20,21])],[],[]⟩
theorem Zcbq:Known Tryz.prog Ztz Tryz.f74 Zbxt (Zg Tryz.f74):=by refine ⟨Tryz.func74,?_,?_,?_,?_,?_⟩<;>kernel_rfl
def Zbjw (r0b:Nat) (b1a:Option Addr) (b1n:Nat) (b1c:Nat) (n5:Int) (x20h:Nat) (as6:Int) (x22:Int) (H2:Heap) (next8:(Int×Int×Unit)->Heap->Prop) (R:Value->Heap->Prop):Prop:=
 IfB (decide ((x22:Int)<(x20h:Int)))
 (NilP b1a fun x24q=>
 InB x22 x20h fun x24i=>
 elemAt x24q x24i 1 fun x24p=>
 ∃x25:Int,H2.cell x24p=some (Value.int .u8 x25)∧
 (0:Int) <= 8∧
 next8 ((Zga .u32 (IntKind.wrap .u32 (as6*2^(min (8:Int).toNat (IntKind.bits .u32)))) (IntKind.wrap .u32 x25)),((IntKind.wrap .i64 (x22+1)),())) H2)
 (IfB ((as6:Int)==0)
 (R (Value.bool false) H2)
 (InC n5 b1n fun x40l=>
 FnW Tryz.prog Zhf ⟨[(Value.slice (if b1c=x40l then b1a else Option.map (fun a=>Addr.add a (x40l*1)) b1a) (b1n - x40l) (b1c - x40l))]⟩ H2 fun x41v H3=>
 ∃x41:Int,x41v=(Value.int .u32 x41)∧
 Zb H3 ⟨r0b,8,none⟩ (Value.bool true) fun H4=>
 Zb H4 ⟨r0b,9,none⟩ (Value.int .u32 as6) fun H5=>
 Zb H5 ⟨r0b,10,none⟩ (Value.int .u32 x41) fun H6=>
 R (Value.bool true) H6))
def Zwg (r0b:Nat) (b1a:Option Addr) (b1n:Nat) (b1c:Nat) (n5:Int) (H1:Heap) (R:Value->Heap->Prop):Prop:=
 IfB (((b1n:Int):Int) !=(IntKind.wrap .i64 (n5+4)))
 (R (Value.bool false) H1)
 (InC n5 b1c fun x20h=>
 Zgk (Int×Int×Unit) (0,(0,())) H1 fun x H next=>∀_g:Env,Zbjw r0b b1a b1n b1c n5 x20h x.1 x.2.1 H next R)
def Zbnd (r0b:Nat) (b1a:Option Addr) (b1n:Nat) (b1c:Nat) (H:Heap) (R:Value->Heap->Prop):Prop:=
 ∃x12:Bool,H.cell ⟨r0b,13,none⟩=some (Value.bool x12)∧
 IfB x12
 (Zwg r0b b1a b1n b1c 4 H R)
 (Zwg r0b b1a b1n b1c 2 H R)
theorem Zcgx (r0b:Nat) (b1a:Option Addr) (b1n:Nat) (b1c:Nat) (H:Heap) (R:Value->Heap->Prop):Zbnd r0b b1a b1n b1c H R=Zc Tryz.prog Zbxt (Zg Tryz.f74) (env0 [(Value.pointer (some ⟨r0b,0,none⟩)),(Value.slice b1a b1n b1c)]) H (RetW Tryz.prog Tryz.f74.results.toList R):=by kernel_rfl
theorem Zcpi (r0b:Nat) (b1a:Option Addr) (b1n:Nat) (b1c:Nat) {H:Heap} {R:Value->Heap->Prop} (h:Zbnd r0b b1a b1n b1c H fun v H1=>∀H2,Shut H H1 H2->R v H2):FnW Tryz.prog Ztz ⟨[(Value.pointer (some ⟨r0b,0,none⟩)),(Value.slice b1a b1n b1c)]⟩ H R:=FnW.of_code Zcbq (by kernel_rfl) (Eq.mp (Zcgx r0b b1a b1n b1c H _) h)
end Go.Proofs.YthdffaojeghaeaaGreatDoor
end
section
set_option maxRecDepth 100000
namespace Go.Proofs.YthdffaojeghaeaaGreatDoor
open Go.Sh
def Zkb:Plan:=⟨[(5,[0,1,2,3,4,5,6,7,8,9,10,11,12,13],[24,25,29])],[],[],[]⟩
theorem Zcbs:Known Tryz.prog Zbhy Tryz.f77 Zkb (Zg Tryz.f77):=by refine ⟨Tryz.func77,?_,?_,?_,?_,?_⟩<;>kernel_rfl
def Zwv:Plan:=⟨[],[],[],[]⟩
theorem Zcjc:Known Tryz.prog Zll Tryz.f96 Zwv (Zg Tryz.f96):=by refine ⟨Tryz.func96,?_,?_,?_,?_,?_⟩<;>kernel_rfl
def Zciv (r0b:Nat) (b1:Value) (H:Heap) (K:Value->Value->Heap->Prop) (R:Value->Heap->Prop):Prop:=
 NewW H (Obj.cells ⟨[(Value.pointer (some ⟨r0b,0,none⟩))]⟩ Zoh) fun r2b H1=>
 K b1 (Value.pointer (some ⟨r2b,0,none⟩)) H1
theorem Zcgv (ρ:Env) (r0b:Nat) (b1:Value) (H:Heap) (K:Value->Value->Heap->Prop) (R:Value->Heap->Prop):Zciv r0b b1 H K R=Zc Tryz.prog Zkb (cL (Zg Tryz.f77)) (put (put ρ (some 0) (Value.pointer (some ⟨r0b,0,none⟩))) (some 1) b1) H (Zer (fun ρ H=>K (ρ 1) (ρ 2) H) (RetW Tryz.prog Tryz.f77.results.toList R)):=by kernel_rfl
def Zvz (b1a:Option Addr) (b1n:Nat) (b1c:Nat) (r2:Value) (K:Value->Value->Heap->Prop) (x20:Bool) (H1:Heap) (R:Value->Heap->Prop):Prop:=
 IfB x20
 (R (Value.bool false) H1)
 (K (Value.slice b1a b1n b1c) r2 H1)
def Zbqi (b1a:Option Addr) (b1n:Nat) (b1c:Nat) (r2:Value) (H:Heap) (K:Value->Value->Heap->Prop) (R:Value->Heap->Prop):Prop:=
 IfB (((b1n:Int):Int)==0)
 (Zvz b1a b1n b1c r2 K true H R)
 ((4:Int)≠0∧
 IfB (((Int.tmod (b1n:Int) 4):Int) !=0)
 (Zvz b1a b1n b1c r2 K true H R)
 ((4:Int)≠0∧
 Zvz b1a b1n b1c r2 K (decide (((IntKind.wrap .i64 (Int.tdiv (b1n:Int) 4)):Int)>32)) H R))
theorem Zctj (ρ:Env) (b1a:Option Addr) (b1n:Nat) (b1c:Nat) (r2:Value) (H:Heap) (K:Value->Value->Heap->Prop) (R:Value->Heap->Prop):Zbqi b1a b1n b1c r2 H K R=Zc Tryz.prog Zkb (cL (cR (Zg Tryz.f77))) (put (put ρ (some 1) (Value.slice b1a b1n b1c)) (some 2) r2) H (Zer (fun ρ H=>K (ρ 1) (ρ 2) H) (RetW Tryz.prog Tryz.f77.results.toList R)):=by kernel_rfl
def Zcpr (b1a:Option Addr) (b1n:Nat) (b1c:Nat) (r2:Value) (H:Heap) (K:Value->Value->Heap->Prop) (R:Value->Heap->Prop):Prop:=
 FnW Tryz.prog Zll ⟨[(Value.slice b1a b1n b1c),(Value.int .i64 4)]⟩ H fun x22v H1=>
 ∃x22:Value,x22v=x22∧
 K r2 x22 H1
theorem Zctn (ρ:Env) (b1a:Option Addr) (b1n:Nat) (b1c:Nat) (r2:Value) (H:Heap) (K:Value->Value->Heap->Prop) (R:Value->Heap->Prop):Zcpr b1a b1n b1c r2 H K R=Zc Tryz.prog Zkb (cL (cL (cR (cR (Zg Tryz.f77))))) (put (put ρ (some 1) (Value.slice b1a b1n b1c)) (some 2) r2) H (Zer (fun ρ H=>K (ρ 2) (ρ 22) H) (RetW Tryz.prog Tryz.f77.results.toList R)):=by kernel_rfl
def Zcha (x23:Value) (r2:Value) (H:Heap) (K:Value->Value->Heap->Prop) (R:Value->Heap->Prop):Prop:=
 K r2 x23 H
theorem Zbzi (ρ:Env) (x23:Value) (r2:Value) (H:Heap) (K:Value->Value->Heap->Prop) (R:Value->Heap->Prop):Zcha x23 r2 H K R=Zc Tryz.prog Zkb (cA (cK (cR (cL (cR (cR (Zg Tryz.f77))))))) (put (put ρ (some 23) x23) (some 2) r2) H (Zer (fun ρ H=>K (ρ 2) (ρ 5) H) (RetW Tryz.prog Tryz.f77.results.toList R)):=by kernel_rfl
def Zcdf (r2b:Nat) (x5a:Option Addr) (x5n:Nat) (x5c:Nat) (H:Heap) (K:Heap->Prop) (R:Value->Heap->Prop):Prop:=
 ∃bs:List Nat,(∀b∈bs,∃o,H b=some o)∧
 r2b∈bs∧∃x24:Option Addr,H.cell ⟨r2b,0,none⟩=some (Value.pointer x24)∧
 r2b∈bs∧∃x25:Option Addr,H.cell ⟨r2b,0,none⟩=some (Value.pointer x25)∧
 NilP x25 fun x26p=>
 x26p.block∈bs∧∃(x29a:Option Addr) (x29n x29c:Nat),H.cell ⟨x26p.block,x26p.off+11,none⟩=some (Value.slice x29a x29n x29c)∧
 FnW Tryz.prog Zhf ⟨[(Value.slice x5a x5n x5c)]⟩ H fun x31v H1=>
 ∃x31:Int,x31v=(Value.int .u32 x31)∧
 Zcl bs H H1∧NewW H1 (Obj.cells ⟨[(Value.int .u32 x31)]⟩ Zba) fun x32b H2=>
 AppW Tryz.prog #[Zch,Zch] Zch [(Value.slice x29a x29n x29c),(Value.slice (some ⟨x32b,0,none⟩) 1 1)] H2 fun x33v H3=>
 ∃(x33a:Option Addr) (x33n x33c:Nat),x33v=(Value.slice x33a x33n x33c)∧
 Zcl bs H H3∧NilP x24 fun x34p=>
 Zb H3 ⟨x34p.block,x34p.off+11,none⟩ (Value.slice x33a x33n x33c) fun H4=>
 K H4
theorem Zbyl (ρ:Env) (r2b:Nat) (x5a:Option Addr) (x5n:Nat) (x5c:Nat) (H:Heap) (K:Heap->Prop) (R:Value->Heap->Prop):Zcdf r2b x5a x5n x5c H K R=Zc Tryz.prog Zkb (cB (cK (cR (cL (cR (cR (Zg Tryz.f77))))))) (put (put ρ (some 2) (Value.pointer (some ⟨r2b,0,none⟩))) (some 5) (Value.slice x5a x5n x5c)) H (Zer (fun ρ H=>K H) (RetW Tryz.prog Tryz.f77.results.toList R)):=by kernel_rfl
def Zcsl (H:Heap) (K:Heap->Prop) (R:Value->Heap->Prop):Prop:=
 R (Value.bool true) H
theorem Zchq (ρ:Env) (H:Heap) (K:Heap->Prop) (R:Value->Heap->Prop):Zcsl H K R=Zc Tryz.prog Zkb (cR (cR (cR (Zg Tryz.f77)))) ρ H (Zer (fun ρ H=>K H) (RetW Tryz.prog Tryz.f77.results.toList R)):=by kernel_rfl
def Zcms (s0a:Option Addr) (s0n:Nat) (s0c:Nat) (n1:Int) (H:Heap) (K:Value->Value->Heap->Prop) (R:Value->Heap->Prop):Prop:=
 NewW H (Obj.cells ⟨[(Value.slice s0a s0n s0c)]⟩ Zep) fun s2b H1=>
 NewW H1 (Obj.cells ⟨[(Value.int .i64 n1)]⟩ Ziu) fun n3b H2=>
 K (Value.pointer (some ⟨s2b,0,none⟩)) (Value.pointer (some ⟨n3b,0,none⟩)) H2
theorem Zcio (ρ:Env) (s0a:Option Addr) (s0n:Nat) (s0c:Nat) (n1:Int) (H:Heap) (K:Value->Value->Heap->Prop) (R:Value->Heap->Prop):Zcms s0a s0n s0c n1 H K R=Zc Tryz.prog Zwv (cL (Zg Tryz.f96)) (put (put ρ (some 0) (Value.slice s0a s0n s0c)) (some 1) (Value.int .i64 n1)) H (Zer (fun ρ H=>K (ρ 2) (ρ 3) H) (RetW Tryz.prog Tryz.f96.results.toList R)):=by kernel_rfl
def Zcbf (s2:Value) (n3b:Nat) (H:Heap) (K:Value->Value->Value->Heap->Prop) (R:Value->Heap->Prop):Prop:=
 ∃x5:Int,H.cell ⟨n3b,0,none⟩=some (Value.int .i64 x5)∧
 K s2 (Value.pointer (some ⟨n3b,0,none⟩)) (Value.bool (decide ((x5:Int)<1))) H
theorem Zcbr (ρ:Env) (s2:Value) (n3b:Nat) (H:Heap) (K:Value->Value->Value->Heap->Prop) (R:Value->Heap->Prop):Zcbf s2 n3b H K R=Zc Tryz.prog Zwv (cL (cL (cR (Zg Tryz.f96)))) (put (put ρ (some 2) s2) (some 3) (Value.pointer (some ⟨n3b,0,none⟩))) H (Zer (fun ρ H=>K (ρ 2) (ρ 3) (ρ 6) H) (RetW Tryz.prog Tryz.f96.results.toList R)):=by kernel_rfl
def Zbzx (s2b:Nat) (n3b:Nat) (H:Heap) (K:Heap->Prop) (R:Value->Heap->Prop):Prop:=
 R (Value.func (.func Zhz) #[] #[(Value.pointer (some ⟨s2b,0,none⟩)),(Value.pointer (some ⟨n3b,0,none⟩))]) H
theorem Zbyk (ρ:Env) (s2b:Nat) (n3b:Nat) (H:Heap) (K:Heap->Prop) (R:Value->Heap->Prop):Zbzx s2b n3b H K R=Zc Tryz.prog Zwv (cR (cR (Zg Tryz.f96))) (put (put ρ (some 2) (Value.pointer (some ⟨s2b,0,none⟩))) (some 3) (Value.pointer (some ⟨n3b,0,none⟩))) H (Zer (fun ρ H=>K H) (RetW Tryz.prog Tryz.f96.results.toList R)):=by kernel_rfl
end Go.Proofs.YthdffaojeghaeaaGreatDoor
end
section
set_option maxRecDepth 100000
namespace Go.Proofs.YthdffaojeghaeaaGreatDoor
open Go.Sh
def Zbqy:Plan:=⟨[],[(2,[8],[.int .i64],[0,1,7])],[],[]⟩
theorem Zbzs:Known Tryz.prog Zwo Tryz.f71 Zbqy (Zg Tryz.f71):=by refine ⟨Tryz.func71,?_,?_,?_,?_,?_⟩<;>kernel_rfl
def Zbnx (s0a:Option Addr) (s0n:Nat) (s0c:Nat) (f:FuncId) (w0:Value) (x8:Int) (H1:Heap) (next2:(Int×Unit)->Heap->Prop) (R:Value->Heap->Prop):Prop:=
 IfB (decide ((x8:Int)<(s0n:Int)))
 (NilP s0a fun x14q=>
 InB x8 s0n fun x14i=>
 elemAt x14q x14i 2 fun x14p=>
 ∃x15c0:Int,H1.cell x14p=some (Value.int .i64 x15c0)∧∃(x15c1a:Option Addr) (x15c1n x15c1c:Nat),H1.cell ⟨x14p.block,x14p.off+1,none⟩=some (Value.slice x15c1a x15c1n x15c1c)∧FnW Tryz.prog f ⟨[(Value.agg ⟨[(Value.int .i64 x15c0),(Value.slice x15c1a x15c1n x15c1c)]⟩),w0]⟩ H1 fun x16v H2=>
 ∃x16:Bool,x16v=(Value.bool x16)∧
 IfB x16
 (R (Value.int .i64 x8) H2)
 (next2 ((IntKind.wrap .i64 (x8+1)),()) H2))
 (R (Value.int .i64 (-1)) H1)
def Zbmo (s0a:Option Addr) (s0n:Nat) (s0c:Nat) (f:FuncId) (w0:Value) (H:Heap) (R:Value->Heap->Prop):Prop:=
 Zgk (Int×Unit) (0,()) H fun x H next=>∀_g:Env,Zbnx s0a s0n s0c f w0 x.1 H next R
theorem Zcny (s0a:Option Addr) (s0n:Nat) (s0c:Nat) (f:FuncId) (w0:Value) (H:Heap) (R:Value->Heap->Prop):Zbmo s0a s0n s0c f w0 H R=Zc Tryz.prog Zbqy (Zg Tryz.f71) (env0 [(Value.slice s0a s0n s0c),(Value.func (.func f) #[] #[w0])]) H (RetW Tryz.prog Tryz.f71.results.toList R):=by kernel_rfl
theorem Zces (s0a:Option Addr) (s0n:Nat) (s0c:Nat) (f:FuncId) (w0:Value) {H:Heap} {R:Value->Heap->Prop} (h:Zbmo s0a s0n s0c f w0 H fun v H1=>∀H2,Shut H H1 H2->R v H2):FnW Tryz.prog Zwo ⟨[(Value.slice s0a s0n s0c),(Value.func (.func f) #[] #[w0])]⟩ H R:=FnW.of_code Zbzs (by kernel_rfl) (Eq.mp (Zcny s0a s0n s0c f w0 H _) h)
def Zbux:Plan:=⟨[],[],[],[]⟩
theorem Zcfa:Known Tryz.prog Zro Tryz.f72 Zbux (Zg Tryz.f72):=by refine ⟨Tryz.func72,?_,?_,?_,?_,?_⟩<;>kernel_rfl
def Zbmv (x0c0:Int) (x0c1a:Option Addr) (x0c1n:Nat) (x0c1c:Nat) (b1:Nat) (H:Heap) (R:Value->Heap->Prop):Prop:=
 NewW H (Obj.cells ⟨[(Value.int .i64 x0c0),(Value.slice x0c1a x0c1n x0c1c)]⟩ Zbw) fun x2b H1=>
 ∃x5:Int,H1.cell ⟨x2b,0,none⟩=some (Value.int .i64 x5)∧
 ∃x7:Int,H1.cell ⟨b1,1,none⟩=some (Value.int .i64 x7)∧
 R (Value.bool (decide ((x5:Int)>x7))) H1
theorem Zcdx (x0c0:Int) (x0c1a:Option Addr) (x0c1n:Nat) (x0c1c:Nat) (b1:Nat) (H:Heap) (R:Value->Heap->Prop):Zbmv x0c0 x0c1a x0c1n x0c1c b1 H R=Zc Tryz.prog Zbux (Zg Tryz.f72) (env0 [(Value.agg ⟨[(Value.int .i64 x0c0),(Value.slice x0c1a x0c1n x0c1c)]⟩),(Value.pointer (some ⟨b1,0,none⟩))]) H (RetW Tryz.prog Tryz.f72.results.toList R):=by kernel_rfl
theorem Zbyi (x0c0:Int) (x0c1a:Option Addr) (x0c1n:Nat) (x0c1c:Nat) (b1:Nat) {H:Heap} {R:Value->Heap->Prop} (h:Zbmv x0c0 x0c1a x0c1n x0c1c b1 H fun v H1=>∀H2,Shut H H1 H2->R v H2):FnW Tryz.prog Zro ⟨[(Value.agg ⟨[(Value.int .i64 x0c0),(Value.slice x0c1a x0c1n x0c1c)]⟩),(Value.pointer (some ⟨b1,0,none⟩))]⟩ H R:=FnW.of_code Zcfa (by kernel_rfl) (Eq.mp (Zcdx x0c0 x0c1a x0c1n x0c1c b1 H _) h)
def Zbmh:Plan:=⟨[],[],[],[]⟩
theorem Zcdz:Known Tryz.prog Zuq Tryz.f73 Zbmh (Zg Tryz.f73):=by refine ⟨Tryz.func73,?_,?_,?_,?_,?_⟩<;>kernel_rfl
def Zbdk (s0a:Option Addr) (s0n:Nat) (s0c:Nat) (i1:Int) (v2a:Option Addr) (v2n:Nat) (v2c:Nat) (H:Heap) (R:Value->Heap->Prop):Prop:=
 InC i1 s0n fun x12l=>
 IfB (((v2n:Int):Int)==0)
 (R (Value.slice s0a s0n s0c) H)
 (IfB ((i1:Int)==(s0n:Int))
 (AppW Tryz.prog #[Zck,Zck] Zck [(Value.slice s0a s0n s0c),(Value.slice v2a v2n v2c)] H fun x25v H1=>
 ∃(x25a:Option Addr) (x25n x25c:Nat),x25v=(Value.slice x25a x25n x25c)∧
 R (Value.slice x25a x25n x25c) H1)
 (IfB (decide (((IntKind.wrap .i64 ((s0n:Int)+(v2n:Int))):Int)>(s0c:Int)))
 (InC i1 s0c fun x34h=>
 AppW Tryz.prog #[Zck,Ziu] Zck [(Value.slice s0a x34h s0c),(Value.int .i64 (IntKind.wrap .i64 ((IntKind.wrap .i64 ((s0n:Int)+(v2n:Int))) - i1)))] H fun x40v H2=>
 ∃(x40a:Option Addr) (x40n x40c:Nat),x40v=(Value.slice x40a x40n x40c)∧
 InC i1 x40n fun x43l=>
 Zgf Tryz.prog #[Zck,Zck] Ziu [(Value.slice (if x40c=x43l then x40a else Option.map (fun a=>Addr.add a (x43l*2)) x40a) (x40n - x43l) (x40c - x43l)),(Value.slice v2a v2n v2c)] H2 fun x45v H3=>
 ∃x45:Int,x45v=(Value.int .i64 x45)∧
 InC (IntKind.wrap .i64 (i1+(v2n:Int))) x40n fun x50l=>
 InC i1 s0n fun x53l=>
 Zgf Tryz.prog #[Zck,Zck] Ziu [(Value.slice (if x40c=x50l then x40a else Option.map (fun a=>Addr.add a (x50l*2)) x40a) (x40n - x50l) (x40c - x50l)),(Value.slice (if s0c=x53l then s0a else Option.map (fun a=>Addr.add a (x53l*2)) s0a) (s0n - x53l) (s0c - x53l))] H3 fun x54v H4=>
 ∃x54:Int,x54v=(Value.int .i64 x54)∧
 R (Value.slice x40a x40n x40c) H4)
 (InC (IntKind.wrap .i64 ((s0n:Int)+(v2n:Int))) s0c fun x60h=>
 InC (IntKind.wrap .i64 (i1+(v2n:Int))) x60h fun x66l=>
 ExtW Tryz.prog Zckf ⟨[(Value.slice v2a v2n v2c),(Value.slice (if s0c=x66l then s0a else Option.map (fun a=>Addr.add a (x66l*2)) s0a) (x60h - x66l) (s0c - x66l))]⟩ H fun x67v H5=>
 ∃x67:Bool,x67v=(Value.bool x67)∧
 IfB (!x67)
 (InC (IntKind.wrap .i64 (i1+(v2n:Int))) x60h fun x73l=>
 InC i1 x60h fun x76l=>
 Zgf Tryz.prog #[Zck,Zck] Ziu [(Value.slice (if s0c=x73l then s0a else Option.map (fun a=>Addr.add a (x73l*2)) s0a) (x60h - x73l) (s0c - x73l)),(Value.slice (if s0c=x76l then s0a else Option.map (fun a=>Addr.add a (x76l*2)) s0a) (x60h - x76l) (s0c - x76l))] H5 fun x77v H6=>
 ∃x77:Int,x77v=(Value.int .i64 x77)∧
 InC i1 x60h fun x80l=>
 Zgf Tryz.prog #[Zck,Zck] Ziu [(Value.slice (if s0c=x80l then s0a else Option.map (fun a=>Addr.add a (x80l*2)) s0a) (x60h - x80l) (s0c - x80l)),(Value.slice v2a v2n v2c)] H6 fun x82v H7=>
 ∃x82:Int,x82v=(Value.int .i64 x82)∧
 R (Value.slice s0a x60h s0c) H7)
 (InC (s0n:Int) x60h fun x86l=>
 Zgf Tryz.prog #[Zck,Zck] Ziu [(Value.slice (if s0c=x86l then s0a else Option.map (fun a=>Addr.add a (x86l*2)) s0a) (x60h - x86l) (s0c - x86l)),(Value.slice v2a v2n v2c)] H5 fun x88v H8=>
 ∃x88:Int,x88v=(Value.int .i64 x88)∧
 InC i1 x60h fun x91l=>
 FnW Tryz.prog Zcns ⟨[(Value.slice (if s0c=x91l then s0a else Option.map (fun a=>Addr.add a (x91l*2)) s0a) (x60h - x91l) (s0c - x91l)),(Value.int .i64 (v2n:Int))]⟩ H8 fun x93v H9=>
 x93v=(Value.tuple ⟨[]⟩)∧
 R (Value.slice s0a x60h s0c) H9))))
theorem Zcnr (s0a:Option Addr) (s0n:Nat) (s0c:Nat) (i1:Int) (v2a:Option Addr) (v2n:Nat) (v2c:Nat) (H:Heap) (R:Value->Heap->Prop):Zbdk s0a s0n s0c i1 v2a v2n v2c H R=Zc Tryz.prog Zbmh (Zg Tryz.f73) (env0 [(Value.slice s0a s0n s0c),(Value.int .i64 i1),(Value.slice v2a v2n v2c)]) H (RetW Tryz.prog Tryz.f73.results.toList R):=by kernel_rfl
theorem Zcoc (s0a:Option Addr) (s0n:Nat) (s0c:Nat) (i1:Int) (v2a:Option Addr) (v2n:Nat) (v2c:Nat) {H:Heap} {R:Value->Heap->Prop} (h:Zbdk s0a s0n s0c i1 v2a v2n v2c H fun v H1=>∀H2,Shut H H1 H2->R v H2):FnW Tryz.prog Zuq ⟨[(Value.slice s0a s0n s0c),(Value.int .i64 i1),(Value.slice v2a v2n v2c)]⟩ H R:=FnW.of_code Zcdz (by kernel_rfl) (Eq.mp (Zcnr s0a s0n s0c i1 v2a v2n v2c H _) h)
end Go.Proofs.YthdffaojeghaeaaGreatDoor
end
section
set_option maxRecDepth 100000
namespace Go.Proofs.YthdffaojeghaeaaGreatDoor
open Go.Sh
noncomputable def Zbec:List Value:=(Zcx Tryz.prog Zei).getD []
def Zbpl:Plan:=⟨[(39,[0,1,2,3,4,5,6,7,8,9,10,11],[247])],[(3,[10],[.int .i64],[0,2,6,8,9])],[],[]⟩
theorem Zcdj:Known Tryz.prog Zmv Tryz.f16 Zbpl (Zg Tryz.f16):=by refine ⟨Tryz.func16,?_,?_,?_,?_,?_⟩<;>kernel_rfl
def Zkm (x6b:Nat) (x8b:Nat) (x20b:Nat) (next3:(Int×Unit)->Heap->Prop) (H35:Heap) (R:Value->Heap->Prop):Prop:=
 ∃bs:List Nat,(∀b∈bs,∃o,H35 b=some o)∧
 ∃x243c0:Int,H35.cell ⟨x20b,0,none⟩=some (Value.int .i64 x243c0)∧∃(x243c1a:Option Addr) (x243c1n x243c1c:Nat),H35.cell ⟨x20b,1,none⟩=some (Value.slice x243c1a x243c1n x243c1c)∧∃x243c2:Int,H35.cell ⟨x20b,2,none⟩=some (Value.int .u32 x243c2)∧∃x243c3:Bool,H35.cell ⟨x20b,3,none⟩=some (Value.bool x243c3)∧∃x243c4:Int,H35.cell ⟨x20b,4,none⟩=some (Value.int .u32 x243c4)∧∃x243c5:Bool,H35.cell ⟨x20b,5,none⟩=some (Value.bool x243c5)∧∃x243c6:Int,H35.cell ⟨x20b,6,none⟩=some (Value.int .u32 x243c6)∧∃x243c7:Bool,H35.cell ⟨x20b,7,none⟩=some (Value.bool x243c7)∧∃x243c8:Bool,H35.cell ⟨x20b,8,none⟩=some (Value.bool x243c8)∧∃x243c9:Int,H35.cell ⟨x20b,9,none⟩=some (Value.int .u32 x243c9)∧∃x243c10:Int,H35.cell ⟨x20b,10,none⟩=some (Value.int .u32 x243c10)∧∃(x243c11a:Option Addr) (x243c11n x243c11c:Nat),H35.cell ⟨x20b,11,none⟩=some (Value.slice x243c11a x243c11n x243c11c)∧∃(x243c12a:Option Addr) (x243c12n x243c12c:Nat),H35.cell ⟨x20b,12,none⟩=some (Value.slice x243c12a x243c12n x243c12c)∧x20b∈bs∧∃x247:Int,H35.cell ⟨x20b,13,none⟩=some (Value.int .i64 x247)∧
 Zb H35 ⟨x6b,0,none⟩ (Value.int .i64 x243c0) fun H36=>
 Zb H36 ⟨x6b,1,none⟩ (Value.slice x243c1a x243c1n x243c1c) fun H37=>
 Zb H37 ⟨x6b,2,none⟩ (Value.int .u32 x243c2) fun H38=>
 Zb H38 ⟨x6b,3,none⟩ (Value.bool x243c3) fun H39=>
 Zb H39 ⟨x6b,4,none⟩ (Value.int .u32 x243c4) fun H40=>
 Zb H40 ⟨x6b,5,none⟩ (Value.bool x243c5) fun H41=>
 Zb H41 ⟨x6b,6,none⟩ (Value.int .u32 x243c6) fun H42=>
 Zb H42 ⟨x6b,7,none⟩ (Value.bool x243c7) fun H43=>
 Zb H43 ⟨x6b,8,none⟩ (Value.bool x243c8) fun H44=>
 Zb H44 ⟨x6b,9,none⟩ (Value.int .u32 x243c9) fun H45=>
 Zb H45 ⟨x6b,10,none⟩ (Value.int .u32 x243c10) fun H46=>
 Zb H46 ⟨x6b,11,none⟩ (Value.slice x243c11a x243c11n x243c11c) fun H47=>
 Zb H47 ⟨x6b,12,none⟩ (Value.slice x243c12a x243c12n x243c12c) fun H48=>
 Zcl bs H35 H48∧Zb H48 ⟨x8b,0,none⟩ (Value.int .i64 0) fun H49=>
 Zb H49 ⟨x8b,1,none⟩ (Value.int .i64 0) fun H50=>
 Zb H50 ⟨x8b,2,none⟩ (Value.slice none 0 0) fun H51=>
 ∃r0c0_1:Int,H51.cell ⟨x6b,0,none⟩=some (Value.int .i64 r0c0_1)∧∃(r0c1a_1:Option Addr) (r0c1n_1 r0c1c_1:Nat),H51.cell ⟨x6b,1,none⟩=some (Value.slice r0c1a_1 r0c1n_1 r0c1c_1)∧∃r0c2_1:Int,H51.cell ⟨x6b,2,none⟩=some (Value.int .u32 r0c2_1)∧∃r0c3_1:Bool,H51.cell ⟨x6b,3,none⟩=some (Value.bool r0c3_1)∧∃r0c4_1:Int,H51.cell ⟨x6b,4,none⟩=some (Value.int .u32 r0c4_1)∧∃r0c5_1:Bool,H51.cell ⟨x6b,5,none⟩=some (Value.bool r0c5_1)∧∃r0c6_1:Int,H51.cell ⟨x6b,6,none⟩=some (Value.int .u32 r0c6_1)∧∃r0c7_1:Bool,H51.cell ⟨x6b,7,none⟩=some (Value.bool r0c7_1)∧∃r0c8_1:Bool,H51.cell ⟨x6b,8,none⟩=some (Value.bool r0c8_1)∧∃r0c9_1:Int,H51.cell ⟨x6b,9,none⟩=some (Value.int .u32 r0c9_1)∧∃r0c10_1:Int,H51.cell ⟨x6b,10,none⟩=some (Value.int .u32 r0c10_1)∧∃(r0c11a_1:Option Addr) (r0c11n_1 r0c11c_1:Nat),H51.cell ⟨x6b,11,none⟩=some (Value.slice r0c11a_1 r0c11n_1 r0c11c_1)∧∃(r0c12a_1:Option Addr) (r0c12n_1 r0c12c_1:Nat),H51.cell ⟨x6b,12,none⟩=some (Value.slice r0c12a_1 r0c12n_1 r0c12c_1)∧∃r2c0_1:Int,H51.cell ⟨x8b,0,none⟩=some (Value.int .i64 r2c0_1)∧∃r2c1_1:Int,H51.cell ⟨x8b,1,none⟩=some (Value.int .i64 r2c1_1)∧∃(r2c2a_1:Option Addr) (r2c2n_1 r2c2c_1:Nat),H51.cell ⟨x8b,2,none⟩=some (Value.slice r2c2a_1 r2c2n_1 r2c2c_1)∧R (Value.tuple ⟨[(Value.agg ⟨[(Value.int .i64 r0c0_1),(Value.slice r0c1a_1 r0c1n_1 r0c1c_1),(Value.int .u32 r0c2_1),(Value.bool r0c3_1),(Value.int .u32 r0c4_1),(Value.bool r0c5_1),(Value.int .u32 r0c6_1),(Value.bool r0c7_1),(Value.bool r0c8_1),(Value.int .u32 r0c9_1),(Value.int .u32 r0c10_1),(Value.slice r0c11a_1 r0c11n_1 r0c11c_1),(Value.slice r0c12a_1 r0c12n_1 r0c12c_1)]⟩),(Value.int .i64 x247),(Value.agg ⟨[(Value.int .i64 r2c0_1),(Value.int .i64 r2c1_1),(Value.slice r2c2a_1 r2c2n_1 r2c2c_1)]⟩)]⟩) H51
def Zud (x6b:Nat) (x8b:Nat) (x20b:Nat) (next3:(Int×Unit)->Heap->Prop) (H31:Heap) (R:Value->Heap->Prop):Prop:=
 ∃x221:Bool,H31.cell ⟨x20b,271,none⟩=some (Value.bool x221)∧
 IfB x221
 (∃(x226a:Option Addr) (x226n x226c:Nat),H31.cell ⟨x20b,1,none⟩=some (Value.slice x226a x226n x226c)∧
 ∃(x230a:Option Addr) (x230n x230c:Nat),H31.cell ⟨x20b,272,none⟩=some (Value.slice x230a x230n x230c)∧
 FnW Tryz.prog Znq ⟨[(Value.slice x226a x226n x226c),(Value.slice x230a x230n x230c)]⟩ H31 fun x231v H32=>
 ∃(x231a:Option Addr) (x231n x231c:Nat),x231v=(Value.slice x231a x231n x231c)∧
 FnW Tryz.prog Znu ⟨[(Value.slice x231a x231n x231c)]⟩ H32 fun x233v H33=>
 ∃x233:Int,x233v=(Value.int .i64 x233)∧
 IfB ((x233:Int)==0)
 (Zb H33 ⟨x20b,1,none⟩ (Value.slice x231a x231n x231c) fun H34=>
 Zkm x6b x8b x20b next3 H34 R)
 (Zkm x6b x8b x20b next3 H33 R))
 (Zkm x6b x8b x20b next3 H31 R)
def Zyn (x6b:Nat) (x8b:Nat) (x20b:Nat) (next3:(Int×Unit)->Heap->Prop) (x201:Bool) (H28:Heap) (R:Value->Heap->Prop):Prop:=
 IfB x201
 (∃x207:Int,H28.cell ⟨x20b,274,none⟩=some (Value.int .u32 x207)∧
 ∃x211:Int,H28.cell ⟨x20b,275,none⟩=some (Value.int .u32 x211)∧
 Zb H28 ⟨x20b,9,none⟩ (Value.int .u32 x207) fun H29=>
 Zb H29 ⟨x20b,10,none⟩ (Value.int .u32 x211) fun H30=>
 Zud x6b x8b x20b next3 H30 R)
 (Zud x6b x8b x20b next3 H28 R)
def Zzt (x6b:Nat) (x8b:Nat) (x20b:Nat) (next3:(Int×Unit)->Heap->Prop) (x190:Bool) (H27:Heap) (R:Value->Heap->Prop):Prop:=
 IfB x190
 (∃x195:Bool,H27.cell ⟨x20b,8,none⟩=some (Value.bool x195)∧
 IfB x195
 (∃x200:Bool,H27.cell ⟨x20b,273,none⟩=some (Value.bool x200)∧
 Zyn x6b x8b x20b next3 x200 H27 R)
 (Zyn x6b x8b x20b next3 false H27 R))
 (Zkm x6b x8b x20b next3 H27 R)
def Zbty (x6b:Nat) (x8b:Nat) (x20b:Nat) (x173:Int) (next3:(Int×Unit)->Heap->Prop) (H10:Heap) (R:Value->Heap->Prop):Prop:=
 IfB ((x173:Int)==2)
 (Zb H10 ⟨x6b,0,none⟩ (Value.int .i64 0) fun H11=>
 Zb H11 ⟨x6b,1,none⟩ (Value.slice none 0 0) fun H12=>
 Zb H12 ⟨x6b,2,none⟩ (Value.int .u32 0) fun H13=>
 Zb H13 ⟨x6b,3,none⟩ (Value.bool false) fun H14=>
 Zb H14 ⟨x6b,4,none⟩ (Value.int .u32 0) fun H15=>
 Zb H15 ⟨x6b,5,none⟩ (Value.bool false) fun H16=>
 Zb H16 ⟨x6b,6,none⟩ (Value.int .u32 0) fun H17=>
 Zb H17 ⟨x6b,7,none⟩ (Value.bool false) fun H18=>
 Zb H18 ⟨x6b,8,none⟩ (Value.bool false) fun H19=>
 Zb H19 ⟨x6b,9,none⟩ (Value.int .u32 0) fun H20=>
 Zb H20 ⟨x6b,10,none⟩ (Value.int .u32 0) fun H21=>
 Zb H21 ⟨x6b,11,none⟩ (Value.slice none 0 0) fun H22=>
 Zb H22 ⟨x6b,12,none⟩ (Value.slice none 0 0) fun H23=>
 Zb H23 ⟨x8b,0,none⟩ (Value.int .i64 0) fun H24=>
 Zb H24 ⟨x8b,1,none⟩ (Value.int .i64 0) fun H25=>
 Zb H25 ⟨x8b,2,none⟩ (Value.slice none 0 0) fun H26=>
 ∃r0c0:Int,H26.cell ⟨x6b,0,none⟩=some (Value.int .i64 r0c0)∧∃(r0c1a:Option Addr) (r0c1n r0c1c:Nat),H26.cell ⟨x6b,1,none⟩=some (Value.slice r0c1a r0c1n r0c1c)∧∃r0c2:Int,H26.cell ⟨x6b,2,none⟩=some (Value.int .u32 r0c2)∧∃r0c3:Bool,H26.cell ⟨x6b,3,none⟩=some (Value.bool r0c3)∧∃r0c4:Int,H26.cell ⟨x6b,4,none⟩=some (Value.int .u32 r0c4)∧∃r0c5:Bool,H26.cell ⟨x6b,5,none⟩=some (Value.bool r0c5)∧∃r0c6:Int,H26.cell ⟨x6b,6,none⟩=some (Value.int .u32 r0c6)∧∃r0c7:Bool,H26.cell ⟨x6b,7,none⟩=some (Value.bool r0c7)∧∃r0c8:Bool,H26.cell ⟨x6b,8,none⟩=some (Value.bool r0c8)∧∃r0c9:Int,H26.cell ⟨x6b,9,none⟩=some (Value.int .u32 r0c9)∧∃r0c10:Int,H26.cell ⟨x6b,10,none⟩=some (Value.int .u32 r0c10)∧∃(r0c11a:Option Addr) (r0c11n r0c11c:Nat),H26.cell ⟨x6b,11,none⟩=some (Value.slice r0c11a r0c11n r0c11c)∧∃(r0c12a:Option Addr) (r0c12n r0c12c:Nat),H26.cell ⟨x6b,12,none⟩=some (Value.slice r0c12a r0c12n r0c12c)∧∃r2c0:Int,H26.cell ⟨x8b,0,none⟩=some (Value.int .i64 r2c0)∧∃r2c1:Int,H26.cell ⟨x8b,1,none⟩=some (Value.int .i64 r2c1)∧∃(r2c2a:Option Addr) (r2c2n r2c2c:Nat),H26.cell ⟨x8b,2,none⟩=some (Value.slice r2c2a r2c2n r2c2c)∧R (Value.tuple ⟨[(Value.agg ⟨[(Value.int .i64 r0c0),(Value.slice r0c1a r0c1n r0c1c),(Value.int .u32 r0c2),(Value.bool r0c3),(Value.int .u32 r0c4),(Value.bool r0c5),(Value.int .u32 r0c6),(Value.bool r0c7),(Value.bool r0c8),(Value.int .u32 r0c9),(Value.int .u32 r0c10),(Value.slice r0c11a r0c11n r0c11c),(Value.slice r0c12a r0c12n r0c12c)]⟩),(Value.int .i64 2),(Value.agg ⟨[(Value.int .i64 r2c0),(Value.int .i64 r2c1),(Value.slice r2c2a r2c2n r2c2c)]⟩)]⟩) H26)
 (∃x181:Bool,H10.cell ⟨x20b,8,none⟩=some (Value.bool x181)∧
 IfB (!x181)
 (Zzt x6b x8b x20b next3 true H10 R)
 (∃x188:Int,H10.cell ⟨x20b,9,none⟩=some (Value.int .u32 x188)∧
 Zzt x6b x8b x20b next3 ((x188:Int)==23456) H10 R))
def Zyb (x6b:Nat) (x8b:Nat) (x20b:Nat) (next3:(Int×Unit)->Heap->Prop) (H9:Heap) (R:Value->Heap->Prop):Prop:=
 ∃x173:Int,H9.cell ⟨x20b,13,none⟩=some (Value.int .i64 x173)∧
 Zbty x6b x8b x20b x173 next3 H9 R
def Zlk (x6b:Nat) (x8b:Nat) (x20b:Nat) (next3:(Int×Unit)->Heap->Prop) (x167:Bool) (H7:Heap) (R:Value->Heap->Prop):Prop:=
 IfB x167
 (FnW Tryz.prog Zdg ⟨[(Value.pointer (some ⟨x20b,0,none⟩)),(Value.int .i64 2)]⟩ H7 fun x169v H8=>
 x169v=(Value.tuple ⟨[]⟩)∧
 Zyb x6b x8b x20b next3 H8 R)
 (Zyb x6b x8b x20b next3 H7 R)
def Zkf (told2:Bool) (x6b:Nat) (x8b:Nat) (x20b:Nat) (next3:(Int×Unit)->Heap->Prop) (H6:Heap) (R:Value->Heap->Prop):Prop:=
 IfB told2
 (InB 1 256 fun x148i=>
 ∃x149:Bool,H6.cell ⟨x20b,14+x148i*1,none⟩=some (Value.bool x149)∧
 IfB (!x149)
 (Zlk x6b x8b x20b next3 true H6 R)
 (InB 2 256 fun x155i=>
 ∃x156:Bool,H6.cell ⟨x20b,14+x155i*1,none⟩=some (Value.bool x156)∧
 IfB (!x156)
 (Zlk x6b x8b x20b next3 true H6 R)
 (InB 3 256 fun x163i=>
 ∃x164:Bool,H6.cell ⟨x20b,14+x163i*1,none⟩=some (Value.bool x164)∧
 Zlk x6b x8b x20b next3 (!x164) H6 R)))
 (Zlk x6b x8b x20b next3 false H6 R)
def Zvq (b0a:Option Addr) (b0n:Nat) (b0c:Nat) (told2:Bool) (x6b:Nat) (x8b:Nat) (x20b:Nat) (i10:Int) (next3:(Int×Unit)->Heap->Prop) (head11:Int) (n12:Int) (H53:Heap) (R:Value->Heap->Prop):Prop:=
 IfB (decide ((n12:Int)>(IntKind.wrap .i64 ((IntKind.wrap .i64 ((b0n:Int) - i10)) - head11))))
 (FnW Tryz.prog Zdg ⟨[(Value.pointer (some ⟨x20b,0,none⟩)),(Value.int .i64 2)]⟩ H53 fun x75v H54=>
 x75v=(Value.tuple ⟨[]⟩)∧
 Zkf told2 x6b x8b x20b next3 H54 R)
 (NilP b0a fun x78q=>
 InB i10 b0n fun x78i=>
 elemAt x78q x78i 1 fun x78p=>
 ∃x79:Int,H53.cell x78p=some (Value.int .u8 x79)∧
 (64:Int)≠0∧
 NilP b0a fun x85q=>
 InB (IntKind.wrap .i64 (i10+1)) b0n fun x85i=>
 elemAt x85q x85i 1 fun x85p=>
 ∃x86:Int,H53.cell x85p=some (Value.int .u8 x86)∧
 InC (IntKind.wrap .i64 ((IntKind.wrap .i64 (i10+head11))+n12)) b0c fun x95h=>
 InC i10 x95h fun x95l=>
 InC head11 (x95h - x95l) fun x98l=>
 InB (IntKind.wrap .i64 x86) 256 fun x108i=>
 ∃x109:Bool,H53.cell ⟨x20b,14+x108i*1,none⟩=some (Value.bool x109)∧
 IfB x109
 (FnW Tryz.prog Zdg ⟨[(Value.pointer (some ⟨x20b,0,none⟩)),(Value.int .i64 1)]⟩ H53 fun x111v H55=>
 x111v=(Value.tuple ⟨[]⟩)∧
 next3 ((IntKind.wrap .i64 (i10+(IntKind.wrap .i64 (head11+n12)))),()) H55)
 (InB (IntKind.wrap .i64 x86) 256 fun x116i=>
 Zb H53 ⟨x20b,14+x116i*1,none⟩ (Value.bool true) fun H56=>
 FnW Tryz.prog Ztn ⟨[(Value.int .i64 (IntKind.wrap .i64 x86))]⟩ H56 fun x118v H57=>
 ∃x118:Bool,x118v=(Value.bool x118)∧
 IfB (!x118)
 (IfB (decide (((IntKind.wrap .u8 ((IntKind.wrap .u8 (Int.tdiv x79 64))*64)):Int)<128))
 (NewW H57 (Obj.cells ⟨[]⟩ Zec) fun x123b H58=>
 AppW Tryz.prog #[Zep,Zep] Zep [(Value.slice (some ⟨x123b,0,none⟩) 0 0),(Value.slice (if b0c=x95l then b0a else Option.map (fun a=>Addr.add a (x95l*1)) b0a) (x95h - x95l) (b0c - x95l))] H58 fun x125v H59=>
 ∃(x125a:Option Addr) (x125n x125c:Nat),x125v=(Value.slice x125a x125n x125c)∧
 Zb H59 ⟨x6b,0,none⟩ (Value.int .i64 0) fun H60=>
 Zb H60 ⟨x6b,1,none⟩ (Value.slice none 0 0) fun H61=>
 Zb H61 ⟨x6b,2,none⟩ (Value.int .u32 0) fun H62=>
 Zb H62 ⟨x6b,3,none⟩ (Value.bool false) fun H63=>
 Zb H63 ⟨x6b,4,none⟩ (Value.int .u32 0) fun H64=>
 Zb H64 ⟨x6b,5,none⟩ (Value.bool false) fun H65=>
 Zb H65 ⟨x6b,6,none⟩ (Value.int .u32 0) fun H66=>
 Zb H66 ⟨x6b,7,none⟩ (Value.bool false) fun H67=>
 Zb H67 ⟨x6b,8,none⟩ (Value.bool false) fun H68=>
 Zb H68 ⟨x6b,9,none⟩ (Value.int .u32 0) fun H69=>
 Zb H69 ⟨x6b,10,none⟩ (Value.int .u32 0) fun H70=>
 Zb H70 ⟨x6b,11,none⟩ (Value.slice none 0 0) fun H71=>
 Zb H71 ⟨x6b,12,none⟩ (Value.slice none 0 0) fun H72=>
 Zb H72 ⟨x8b,0,none⟩ (Value.int .i64 3) fun H73=>
 Zb H73 ⟨x8b,1,none⟩ (Value.int .i64 2) fun H74=>
 Zb H74 ⟨x8b,2,none⟩ (Value.slice x125a x125n x125c) fun H75=>
 ∃r0c0_2:Int,H75.cell ⟨x6b,0,none⟩=some (Value.int .i64 r0c0_2)∧∃(r0c1a_2:Option Addr) (r0c1n_2 r0c1c_2:Nat),H75.cell ⟨x6b,1,none⟩=some (Value.slice r0c1a_2 r0c1n_2 r0c1c_2)∧∃r0c2_2:Int,H75.cell ⟨x6b,2,none⟩=some (Value.int .u32 r0c2_2)∧∃r0c3_2:Bool,H75.cell ⟨x6b,3,none⟩=some (Value.bool r0c3_2)∧∃r0c4_2:Int,H75.cell ⟨x6b,4,none⟩=some (Value.int .u32 r0c4_2)∧∃r0c5_2:Bool,H75.cell ⟨x6b,5,none⟩=some (Value.bool r0c5_2)∧∃r0c6_2:Int,H75.cell ⟨x6b,6,none⟩=some (Value.int .u32 r0c6_2)∧∃r0c7_2:Bool,H75.cell ⟨x6b,7,none⟩=some (Value.bool r0c7_2)∧∃r0c8_2:Bool,H75.cell ⟨x6b,8,none⟩=some (Value.bool r0c8_2)∧∃r0c9_2:Int,H75.cell ⟨x6b,9,none⟩=some (Value.int .u32 r0c9_2)∧∃r0c10_2:Int,H75.cell ⟨x6b,10,none⟩=some (Value.int .u32 r0c10_2)∧∃(r0c11a_2:Option Addr) (r0c11n_2 r0c11c_2:Nat),H75.cell ⟨x6b,11,none⟩=some (Value.slice r0c11a_2 r0c11n_2 r0c11c_2)∧∃(r0c12a_2:Option Addr) (r0c12n_2 r0c12c_2:Nat),H75.cell ⟨x6b,12,none⟩=some (Value.slice r0c12a_2 r0c12n_2 r0c12c_2)∧∃r2c0_2:Int,H75.cell ⟨x8b,0,none⟩=some (Value.int .i64 r2c0_2)∧∃r2c1_2:Int,H75.cell ⟨x8b,1,none⟩=some (Value.int .i64 r2c1_2)∧∃(r2c2a_2:Option Addr) (r2c2n_2 r2c2c_2:Nat),H75.cell ⟨x8b,2,none⟩=some (Value.slice r2c2a_2 r2c2n_2 r2c2c_2)∧R (Value.tuple ⟨[(Value.agg ⟨[(Value.int .i64 r0c0_2),(Value.slice r0c1a_2 r0c1n_2 r0c1c_2),(Value.int .u32 r0c2_2),(Value.bool r0c3_2),(Value.int .u32 r0c4_2),(Value.bool r0c5_2),(Value.int .u32 r0c6_2),(Value.bool r0c7_2),(Value.bool r0c8_2),(Value.int .u32 r0c9_2),(Value.int .u32 r0c10_2),(Value.slice r0c11a_2 r0c11n_2 r0c11c_2),(Value.slice r0c12a_2 r0c12n_2 r0c12c_2)]⟩),(Value.int .i64 3),(Value.agg ⟨[(Value.int .i64 r2c0_2),(Value.int .i64 r2c1_2),(Value.slice r2c2a_2 r2c2n_2 r2c2c_2)]⟩)]⟩) H75)
 (IfB (((IntKind.wrap .u8 ((IntKind.wrap .u8 (Int.tdiv x79 64))*64)):Int)==192)
 (FnW Tryz.prog Zui ⟨[(Value.pointer (some ⟨x20b,0,none⟩)),(Value.int .i64 (IntKind.wrap .i64 x86)),(Value.slice (if b0c - x95l=x98l then (if b0c=x95l then b0a else Option.map (fun a=>Addr.add a (x95l*1)) b0a) else Option.map (fun a=>Addr.add a (x98l*1)) (if b0c=x95l then b0a else Option.map (fun a=>Addr.add a (x95l*1)) b0a)) ((x95h - x95l) - x98l) ((b0c - x95l) - x98l))]⟩ H57 fun x132v H76=>
 x132v=(Value.tuple ⟨[]⟩)∧
 next3 ((IntKind.wrap .i64 (i10+(IntKind.wrap .i64 (head11+n12)))),()) H76)
 (next3 ((IntKind.wrap .i64 (i10+(IntKind.wrap .i64 (head11+n12)))),()) H57)))
 (FnW Tryz.prog Ztp ⟨[(Value.int .i64 (IntKind.wrap .i64 x86))]⟩ H57 fun x135v H77=>
 ∃x135:Int,x135v=(Value.int .u8 x135)∧
 IfB (((IntKind.wrap .u8 ((IntKind.wrap .u8 (Int.tdiv x79 64))*64)):Int) !=x135)
 (FnW Tryz.prog Zdg ⟨[(Value.pointer (some ⟨x20b,0,none⟩)),(Value.int .i64 2)]⟩ H77 fun x138v H78=>
 x138v=(Value.tuple ⟨[]⟩)∧
 next3 ((IntKind.wrap .i64 (i10+(IntKind.wrap .i64 (head11+n12)))),()) H78)
 (FnW Tryz.prog Zzo ⟨[(Value.pointer (some ⟨x20b,0,none⟩)),(Value.int .i64 (IntKind.wrap .i64 x86)),(Value.slice (if b0c - x95l=x98l then (if b0c=x95l then b0a else Option.map (fun a=>Addr.add a (x95l*1)) b0a) else Option.map (fun a=>Addr.add a (x98l*1)) (if b0c=x95l then b0a else Option.map (fun a=>Addr.add a (x95l*1)) b0a)) ((x95h - x95l) - x98l) ((b0c - x95l) - x98l))]⟩ H77 fun x142v H79=>
 x142v=(Value.tuple ⟨[]⟩)∧
 next3 ((IntKind.wrap .i64 (i10+(IntKind.wrap .i64 (head11+n12)))),()) H79))))
def Zbpp (b0a:Option Addr) (b0n:Nat) (b0c:Nat) (told2:Bool) (x6b:Nat) (x8b:Nat) (x20b:Nat) (i10:Int) (H4:Heap) (next3:(Int×Unit)->Heap->Prop) (R:Value->Heap->Prop):Prop:=
 IfB (decide ((i10:Int)<(b0n:Int)))
 (IfB (decide (((IntKind.wrap .i64 (i10+2)):Int)≥(b0n:Int)))
 (FnW Tryz.prog Zdg ⟨[(Value.pointer (some ⟨x20b,0,none⟩)),(Value.int .i64 2)]⟩ H4 fun x31v H5=>
 x31v=(Value.tuple ⟨[]⟩)∧
 Zkf told2 x6b x8b x20b next3 H5 R)
 (NilP b0a fun x35q=>
 InB (IntKind.wrap .i64 (i10+2)) b0n fun x35i=>
 elemAt x35q x35i 1 fun x35p=>
 ∃x36:Int,H4.cell x35p=some (Value.int .u8 x36)∧
 NilP b0a fun x40q=>
 InB i10 b0n fun x40i=>
 elemAt x40q x40i 1 fun x40p=>
 ∃x41:Int,H4.cell x40p=some (Value.int .u8 x41)∧
 (16:Int)≠0∧
 (2:Int)≠0∧
 IfB (((Int.tmod (IntKind.wrap .u8 (Int.tdiv x41 16)) 2):Int)==1)
 (IfB (decide (((IntKind.wrap .i64 (i10+3)):Int)≥(b0n:Int)))
 (FnW Tryz.prog Zdg ⟨[(Value.pointer (some ⟨x20b,0,none⟩)),(Value.int .i64 2)]⟩ H4 fun x51v H52=>
 x51v=(Value.tuple ⟨[]⟩)∧
 Zkf told2 x6b x8b x20b next3 H52 R)
 (NilP b0a fun x55q=>
 InB (IntKind.wrap .i64 (i10+2)) b0n fun x55i=>
 elemAt x55q x55i 1 fun x55p=>
 ∃x56:Int,H4.cell x55p=some (Value.int .u8 x56)∧
 NilP b0a fun x62q=>
 InB (IntKind.wrap .i64 (i10+3)) b0n fun x62i=>
 elemAt x62q x62i 1 fun x62p=>
 ∃x63:Int,H4.cell x62p=some (Value.int .u8 x63)∧
 Zvq b0a b0n b0c told2 x6b x8b x20b i10 next3 4 (IntKind.wrap .i64 ((IntKind.wrap .i64 (256*(IntKind.wrap .i64 x56)))+(IntKind.wrap .i64 x63))) H4 R))
 (Zvq b0a b0n b0c told2 x6b x8b x20b i10 next3 3 (IntKind.wrap .i64 x36) H4 R)))
 (Zkf told2 x6b x8b x20b next3 H4 R)
def Zbuv (b0a:Option Addr) (b0n:Nat) (b0c:Nat) (four1:Bool) (told2:Bool) (H:Heap) (R:Value->Heap->Prop):Prop:=
 NewW H (Obj.cells ⟨[(Value.int .i64 0),(Value.slice none 0 0),(Value.int .u32 0),(Value.bool false),(Value.int .u32 0),(Value.bool false),(Value.int .u32 0),(Value.bool false),(Value.bool false),(Value.int .u32 0),(Value.int .u32 0),(Value.slice none 0 0),(Value.slice none 0 0)]⟩ Zcu) fun x6b H1=>
 NewW H1 (Obj.cells ⟨[(Value.int .i64 0),(Value.int .i64 0),(Value.slice none 0 0)]⟩ Zdq) fun x8b H2=>
 NewW H2 (Obj.cells ⟨(setL Zbec 270 [(Value.bool four1)])⟩ Zei) fun x20b H3=>
 Zgk (Int×Unit) (0,()) H3 fun x H next=>∀_g:Env,Zbpp b0a b0n b0c told2 x6b x8b x20b x.1 H next R
theorem Zcju (b0a:Option Addr) (b0n:Nat) (b0c:Nat) (four1:Bool) (told2:Bool) (H:Heap) (R:Value->Heap->Prop):Zbuv b0a b0n b0c four1 told2 H R=Zc Tryz.prog Zbpl (Zg Tryz.f16) (env0 [(Value.slice b0a b0n b0c),(Value.bool four1),(Value.bool told2)]) H (RetW Tryz.prog Tryz.f16.results.toList R):=by kernel_rfl
theorem Zcay (b0a:Option Addr) (b0n:Nat) (b0c:Nat) (four1:Bool) (told2:Bool) {H:Heap} {R:Value->Heap->Prop} (h:Zbuv b0a b0n b0c four1 told2 H fun v H1=>∀H2,Shut H H1 H2->R v H2):FnW Tryz.prog Zmv ⟨[(Value.slice b0a b0n b0c),(Value.bool four1),(Value.bool told2)]⟩ H R:=FnW.of_code Zcdj (by kernel_rfl) (Eq.mp (Zcju b0a b0n b0c four1 told2 H _) h)
def Zbwv:Plan:=⟨[],[],[],[]⟩
theorem Zcds:Known Tryz.prog Zdg Tryz.f29 Zbwv (Zg Tryz.f29):=by refine ⟨Tryz.func29,?_,?_,?_,?_,?_⟩<;>kernel_rfl
def Zbwi (r0b:Nat) (worth1:Int) (H:Heap) (R:Value->Heap->Prop):Prop:=
 ∃x8:Int,H.cell ⟨r0b,13,none⟩=some (Value.int .i64 x8)∧
 Zb H ⟨r0b,13,none⟩ (Value.int .i64 (max x8 worth1)) fun H1=>
 R (Value.tuple ⟨[]⟩) H1
theorem Zcae (r0b:Nat) (worth1:Int) (H:Heap) (R:Value->Heap->Prop):Zbwi r0b worth1 H R=Zc Tryz.prog Zbwv (Zg Tryz.f29) (env0 [(Value.pointer (some ⟨r0b,0,none⟩)),(Value.int .i64 worth1)]) H (RetW Tryz.prog Tryz.f29.results.toList R):=by kernel_rfl
theorem Zbyf (r0b:Nat) (worth1:Int) {H:Heap} {R:Value->Heap->Prop} (h:Zbwi r0b worth1 H fun v H1=>∀H2,Shut H H1 H2->R v H2):FnW Tryz.prog Zdg ⟨[(Value.pointer (some ⟨r0b,0,none⟩)),(Value.int .i64 worth1)]⟩ H R:=FnW.of_code Zcds (by kernel_rfl) (Eq.mp (Zcae r0b worth1 H _) h)
def Zbvc:Plan:=⟨[(6,[0,2,3,4,5,6,7,8,10,13,14,15,16,17,18,19,1,11,9,12,20,21,22,23,24],[60,67])],[(3,[6],[.int .i64],[0,1,2])],[],[]⟩
theorem Zcde:Known Tryz.prog Zui Tryz.f31 Zbvc (Zg Tryz.f31):=by refine ⟨Tryz.func31,?_,?_,?_,?_,?_⟩<;>kernel_rfl
def Zrn (r0b:Nat) (kind1:Int) (data2a:Option Addr) (data2n:Nat) (data2c:Nat) (k6:Int) (next3:(Int×Unit)->Heap->Prop) (x42:Bool) (H4:Heap) (R:Value->Heap->Prop):Prop:=
 IfB x42
 (next3 ((IntKind.wrap .i64 (k6+1)),()) H4)
 (NewW H4 (Obj.cells ⟨[]⟩ Zec) fun x46b H5=>
 AppW Tryz.prog #[Zep,Zep] Zep [(Value.slice (some ⟨x46b,0,none⟩) 0 0),(Value.slice data2a data2n data2c)] H5 fun x48v H6=>
 ∃(x48a:Option Addr) (x48n x48c:Nat),x48v=(Value.slice x48a x48n x48c)∧
 NewW H6 (Obj.cells ⟨[(Value.int .i64 0),(Value.slice none 0 0)]⟩ Zbw) fun x7b H7=>
 Zb H7 ⟨x7b,0,none⟩ (Value.int .i64 kind1) fun H8=>
 Zb H8 ⟨x7b,1,none⟩ (Value.slice x48a x48n x48c) fun H9=>
 ∃bs:List Nat,(∀b∈bs,∃o,H9 b=some o)∧
 ∃(x56a:Option Addr) (x56n x56c:Nat),H9.cell ⟨r0b,12,none⟩=some (Value.slice x56a x56n x56c)∧
 InC k6 x56c fun x58h=>
 x7b∈bs∧∃x60c0:Int,H9.cell ⟨x7b,0,none⟩=some (Value.int .i64 x60c0)∧∃(x60c1a:Option Addr) (x60c1n x60c1c:Nat),H9.cell ⟨x7b,1,none⟩=some (Value.slice x60c1a x60c1n x60c1c)∧r0b∈bs∧∃(x67a:Option Addr) (x67n x67c:Nat),H9.cell ⟨r0b,12,none⟩=some (Value.slice x67a x67n x67c)∧
 InC k6 x67n fun x69l=>
 NewW H9 (Obj.cells ⟨[]⟩ Zbw) fun x51b H10=>
 NewW H10 (Obj.cells ⟨[(Value.int .i64 x60c0),(Value.slice x60c1a x60c1n x60c1c)]⟩ Zbw) fun x61b H11=>
 AppW Tryz.prog #[Zck,Zck] Zck [(Value.slice (some ⟨x51b,0,none⟩) 0 0),(Value.slice x56a x58h x56c)] H11 fun x59v H12=>
 ∃(x59a:Option Addr) (x59n x59c:Nat),x59v=(Value.slice x59a x59n x59c)∧
 Zcl bs H9 H12∧AppW Tryz.prog #[Zck,Zck] Zck [(Value.slice x59a x59n x59c),(Value.slice (some ⟨x61b,0,none⟩) 1 1)] H12 fun x62v H13=>
 ∃(x62a:Option Addr) (x62n x62c:Nat),x62v=(Value.slice x62a x62n x62c)∧
 Zcl bs H9 H13∧AppW Tryz.prog #[Zck,Zck] Zck [(Value.slice x62a x62n x62c),(Value.slice (if x67c=x69l then x67a else Option.map (fun a=>Addr.add a (x69l*2)) x67a) (x67n - x69l) (x67c - x69l))] H13 fun x70v H14=>
 ∃(x70a:Option Addr) (x70n x70c:Nat),x70v=(Value.slice x70a x70n x70c)∧
 Zcl bs H9 H14∧Zb H14 ⟨r0b,12,none⟩ (Value.slice x70a x70n x70c) fun H15=>
 R (Value.tuple ⟨[]⟩) H15)
def Zbiy (r0b:Nat) (kind1:Int) (data2a:Option Addr) (data2n:Nat) (data2c:Nat) (k6:Int) (H3:Heap) (next3:(Int×Unit)->Heap->Prop) (R:Value->Heap->Prop):Prop:=
 ∃(x27a:Option Addr) (x27n x27c:Nat),H3.cell ⟨r0b,12,none⟩=some (Value.slice x27a x27n x27c)∧
 IfB (decide ((k6:Int)<(x27n:Int)))
 (∃(x35a:Option Addr) (x35n x35c:Nat),H3.cell ⟨r0b,12,none⟩=some (Value.slice x35a x35n x35c)∧
 NilP x35a fun x37q=>
 InB k6 x35n fun x37i=>
 elemAt x37q x37i 2 fun x37p=>
 ∃x39:Int,H3.cell x37p=some (Value.int .i64 x39)∧
 Zrn r0b kind1 data2a data2n data2c k6 next3 (decide ((x39:Int)<kind1)) H3 R)
 (Zrn r0b kind1 data2a data2n data2c k6 next3 false H3 R)
def Zsh (r0b:Nat) (kind1:Int) (data2a:Option Addr) (data2n:Nat) (data2c:Nat) (x19:Bool) (H1:Heap) (R:Value->Heap->Prop):Prop:=
 IfB x19
 (FnW Tryz.prog Zdg ⟨[(Value.pointer (some ⟨r0b,0,none⟩)),(Value.int .i64 1)]⟩ H1 fun x21v H2=>
 x21v=(Value.tuple ⟨[]⟩)∧
 R (Value.tuple ⟨[]⟩) H2)
 (Zgk (Int×Unit) (0,()) H1 fun x H next=>∀_g:Env,Zbiy r0b kind1 data2a data2n data2c x.1 H next R)
def Zbrn (r0b:Nat) (kind1:Int) (data2a:Option Addr) (data2n:Nat) (data2c:Nat) (H:Heap) (R:Value->Heap->Prop):Prop:=
 ∃(x12a:Option Addr) (x12n x12c:Nat),H.cell ⟨r0b,12,none⟩=some (Value.slice x12a x12n x12c)∧
 IfB (decide (((x12n:Int):Int)≥8))
 (Zsh r0b kind1 data2a data2n data2c true H R)
 (Zsh r0b kind1 data2a data2n data2c (decide (((data2n:Int):Int)>255)) H R)
theorem Zcto (r0b:Nat) (kind1:Int) (data2a:Option Addr) (data2n:Nat) (data2c:Nat) (H:Heap) (R:Value->Heap->Prop):Zbrn r0b kind1 data2a data2n data2c H R=Zc Tryz.prog Zbvc (Zg Tryz.f31) (env0 [(Value.pointer (some ⟨r0b,0,none⟩)),(Value.int .i64 kind1),(Value.slice data2a data2n data2c)]) H (RetW Tryz.prog Tryz.f31.results.toList R):=by kernel_rfl
theorem Zcnt (r0b:Nat) (kind1:Int) (data2a:Option Addr) (data2n:Nat) (data2c:Nat) {H:Heap} {R:Value->Heap->Prop} (h:Zbrn r0b kind1 data2a data2n data2c H fun v H1=>∀H2,Shut H H1 H2->R v H2):FnW Tryz.prog Zui ⟨[(Value.pointer (some ⟨r0b,0,none⟩)),(Value.int .i64 kind1),(Value.slice data2a data2n data2c)]⟩ H R:=FnW.of_code Zcde (by kernel_rfl) (Eq.mp (Zcto r0b kind1 data2a data2n data2c H _) h)
def Zbnl:Plan:=⟨[(38,[0,1,2,3,4,5,6,7,8,9,10,11,12,13,14,15],[178]),(49,[0,1,2,3,5,6,4,7,8,9,10,11,12,13,14,15,16],[])],[(36,[10],[.int .i64],[0,2])],[],[]⟩
theorem Zcbn:Known Tryz.prog Zzo Tryz.f33 Zbnl (Zg Tryz.f33):=by refine ⟨Tryz.func33,?_,?_,?_,?_,?_⟩<;>kernel_rfl
def Zlt (r0b:Nat) (d2a:Option Addr) (d2n:Nat) (d2c:Nat) (x24:Bool) (H1:Heap) (R:Value->Heap->Prop):Prop:=
 IfB x24
 (FnW Tryz.prog Zdg ⟨[(Value.pointer (some ⟨r0b,0,none⟩)),(Value.int .i64 2)]⟩ H1 fun x26v H2=>
 x26v=(Value.tuple ⟨[]⟩)∧
 R (Value.tuple ⟨[]⟩) H2)
 (NilP d2a fun x29q=>
 InB 0 d2n fun x29i=>
 elemAt x29q x29i 1 fun x29p=>
 ∃x30:Int,H1.cell x29p=some (Value.int .u8 x30)∧
 Zb H1 ⟨r0b,0,none⟩ (Value.int .i64 (IntKind.wrap .i64 x30)) fun H3=>
 R (Value.tuple ⟨[]⟩) H3)
def Znj (r0b:Nat) (d2a:Option Addr) (d2n:Nat) (d2c:Nat) (x69:Bool) (H7:Heap) (R:Value->Heap->Prop):Prop:=
 IfB x69
 (FnW Tryz.prog Zdg ⟨[(Value.pointer (some ⟨r0b,0,none⟩)),(Value.int .i64 2)]⟩ H7 fun x71v H8=>
 x71v=(Value.tuple ⟨[]⟩)∧
 R (Value.tuple ⟨[]⟩) H8)
 (FnW Tryz.prog Zfe ⟨[(Value.slice d2a d2n d2c)]⟩ H7 fun x74v H9=>
 ∃x74:Int,x74v=(Value.int .u32 x74)∧
 Zb H9 ⟨r0b,2,none⟩ (Value.int .u32 x74) fun H10=>
 R (Value.tuple ⟨[]⟩) H10)
def Zxk (r0b:Nat) (d2a:Option Addr) (d2n:Nat) (d2c:Nat) (n8:Int) (H19:Heap) (R:Value->Heap->Prop):Prop:=
 IfB (((d2n:Int):Int) !=(IntKind.wrap .i64 (n8+4)))
 (FnW Tryz.prog Zdg ⟨[(Value.pointer (some ⟨r0b,0,none⟩)),(Value.int .i64 1)]⟩ H19 fun x118v H20=>
 x118v=(Value.tuple ⟨[]⟩)∧
 R (Value.tuple ⟨[]⟩) H20)
 (NewW H19 (Obj.cells ⟨[(Value.int .u8 0),(Value.int .u8 0),(Value.int .u8 0),(Value.int .u8 0)]⟩ Zec) fun x119b H21=>
 InC n8 d2c fun x122h=>
 AppW Tryz.prog #[Zep,Zep] Zep [(Value.slice (some ⟨x119b,0,none⟩) 4 4),(Value.slice d2a x122h d2c)] H21 fun x123v H22=>
 ∃(x123a:Option Addr) (x123n x123c:Nat),x123v=(Value.slice x123a x123n x123c)∧
 InC n8 x123n fun x125l=>
 FnW Tryz.prog Zfe ⟨[(Value.slice (if x123c=x125l then x123a else Option.map (fun a=>Addr.add a (x125l*1)) x123a) (x123n - x125l) (x123c - x125l))]⟩ H22 fun x126v H23=>
 ∃x126:Int,x126v=(Value.int .u32 x126)∧
 IfB ((x126:Int)==0)
 (FnW Tryz.prog Zdg ⟨[(Value.pointer (some ⟨r0b,0,none⟩)),(Value.int .i64 1)]⟩ H23 fun x130v H24=>
 x130v=(Value.tuple ⟨[]⟩)∧
 R (Value.tuple ⟨[]⟩) H24)
 (InC n8 d2n fun x137l=>
 FnW Tryz.prog Zfe ⟨[(Value.slice (if d2c=x137l then d2a else Option.map (fun a=>Addr.add a (x137l*1)) d2a) (d2n - x137l) (d2c - x137l))]⟩ H23 fun x138v H25=>
 ∃x138:Int,x138v=(Value.int .u32 x138)∧
 Zb H25 ⟨r0b,8,none⟩ (Value.bool true) fun H26=>
 Zb H26 ⟨r0b,9,none⟩ (Value.int .u32 x126) fun H27=>
 Zb H27 ⟨r0b,10,none⟩ (Value.int .u32 x138) fun H28=>
 R (Value.tuple ⟨[]⟩) H28))
def Zbqn (r0b:Nat) (d2a:Option Addr) (d2n:Nat) (d2c:Nat) (i10:Int) (H31:Heap) (next36:(Int×Unit)->Heap->Prop) (R:Value->Heap->Prop):Prop:=
 IfB (decide ((i10:Int)<(d2n:Int)))
 (∃bs:List Nat,(∀b∈bs,∃o,H31 b=some o)∧
 r0b∈bs∧∃(x178a:Option Addr) (x178n x178c:Nat),H31.cell ⟨r0b,11,none⟩=some (Value.slice x178a x178n x178c)∧
 InC i10 d2n fun x181l=>
 FnW Tryz.prog Zfe ⟨[(Value.slice (if d2c=x181l then d2a else Option.map (fun a=>Addr.add a (x181l*1)) d2a) (d2n - x181l) (d2c - x181l))]⟩ H31 fun x182v H32=>
 ∃x182:Int,x182v=(Value.int .u32 x182)∧
 Zcl bs H31 H32∧NewW H32 (Obj.cells ⟨[(Value.int .u32 x182)]⟩ Zba) fun x183b H33=>
 AppW Tryz.prog #[Zch,Zch] Zch [(Value.slice x178a x178n x178c),(Value.slice (some ⟨x183b,0,none⟩) 1 1)] H33 fun x184v H34=>
 ∃(x184a:Option Addr) (x184n x184c:Nat),x184v=(Value.slice x184a x184n x184c)∧
 Zcl bs H31 H34∧Zb H34 ⟨r0b,11,none⟩ (Value.slice x184a x184n x184c) fun H35=>
 next36 ((IntKind.wrap .i64 (i10+4)),()) H35)
 (R (Value.tuple ⟨[]⟩) H31)
def Zlq (r0b:Nat) (d2a:Option Addr) (d2n:Nat) (d2c:Nat) (x164:Bool) (H29:Heap) (R:Value->Heap->Prop):Prop:=
 IfB x164
 (FnW Tryz.prog Zdg ⟨[(Value.pointer (some ⟨r0b,0,none⟩)),(Value.int .i64 2)]⟩ H29 fun x166v H30=>
 x166v=(Value.tuple ⟨[]⟩)∧
 R (Value.tuple ⟨[]⟩) H30)
 (Zgk (Int×Unit) (0,()) H29 fun x H next=>∀_g:Env,Zbqn r0b d2a d2n d2c x.1 H next R)
def Zrc (r0b:Nat) (d2a:Option Addr) (d2n:Nat) (d2c:Nat) (x223:Bool) (H40:Heap) (R:Value->Heap->Prop):Prop:=
 IfB x223
 (FnW Tryz.prog Zdg ⟨[(Value.pointer (some ⟨r0b,0,none⟩)),(Value.int .i64 1)]⟩ H40 fun x225v H41=>
 x225v=(Value.tuple ⟨[]⟩)∧
 R (Value.tuple ⟨[]⟩) H41)
 (InC 4 d2n fun x232l=>
 FnW Tryz.prog Zfe ⟨[(Value.slice d2a d2n d2c)]⟩ H40 fun x230v H42=>
 ∃x230:Int,x230v=(Value.int .u32 x230)∧
 FnW Tryz.prog Zfe ⟨[(Value.slice (if d2c=x232l then d2a else Option.map (fun a=>Addr.add a (x232l*1)) d2a) (d2n - x232l) (d2c - x232l))]⟩ H42 fun x233v H43=>
 ∃x233:Int,x233v=(Value.int .u32 x233)∧
 Zb H43 ⟨r0b,273,none⟩ (Value.bool true) fun H44=>
 Zb H44 ⟨r0b,274,none⟩ (Value.int .u32 x230) fun H45=>
 Zb H45 ⟨r0b,275,none⟩ (Value.int .u32 x233) fun H46=>
 R (Value.tuple ⟨[]⟩) H46)
def Zbly (r0b:Nat) (kind1:Int) (d2a:Option Addr) (d2n:Nat) (d2c:Nat) (H:Heap) (R:Value->Heap->Prop):Prop:=
 IfB ((kind1:Int)==1)
 (IfB (((d2n:Int):Int) !=1)
 (Zlt r0b d2a d2n d2c true H R)
 (NilP d2a fun x21q=>
 InB 0 d2n fun x21i=>
 elemAt x21q x21i 1 fun x21p=>
 ∃x22:Int,H.cell x21p=some (Value.int .u8 x22)∧
 Zlt r0b d2a d2n d2c (decide ((x22:Int)>2)) H R))
 (IfB ((kind1:Int)==2)
 (∃x42:Bool,H.cell ⟨r0b,270,none⟩=some (Value.bool x42)∧
 FnW Tryz.prog Zsb ⟨[(Value.slice d2a d2n d2c),(Value.bool x42)]⟩ H fun x43v H4=>
 ∃(x43r0a:Option Addr) (x43r0n x43r0c:Nat),∃x43r1:Int,x43v=(Value.tuple ⟨[(Value.slice x43r0a x43r0n x43r0c),(Value.int .i64 x43r1)]⟩)∧
 IfB ((x43r1:Int) !=0)
 (FnW Tryz.prog Zdg ⟨[(Value.pointer (some ⟨r0b,0,none⟩)),(Value.int .i64 2)]⟩ H4 fun x49v H5=>
 x49v=(Value.tuple ⟨[]⟩)∧
 R (Value.tuple ⟨[]⟩) H5)
 (Zb H4 ⟨r0b,1,none⟩ (Value.slice x43r0a x43r0n x43r0c) fun H6=>
 R (Value.tuple ⟨[]⟩) H6))
 (IfB ((kind1:Int)==3)
 (IfB (((d2n:Int):Int) !=4)
 (Znj r0b d2a d2n d2c true H R)
 (FnW Tryz.prog Zfe ⟨[(Value.slice d2a d2n d2c)]⟩ H fun x62v H11=>
 ∃x62:Int,x62v=(Value.int .u32 x62)∧
 IfB ((x62:Int)==0)
 (Znj r0b d2a d2n d2c true H11 R)
 (FnW Tryz.prog Zfe ⟨[(Value.slice d2a d2n d2c)]⟩ H11 fun x67v H12=>
 ∃x67:Int,x67v=(Value.int .u32 x67)∧
 Znj r0b d2a d2n d2c (decide ((x67:Int)≥3758096384)) H12 R)))
 (IfB ((kind1:Int)==4)
 (IfB (((d2n:Int):Int) !=4)
 (FnW Tryz.prog Zdg ⟨[(Value.pointer (some ⟨r0b,0,none⟩)),(Value.int .i64 2)]⟩ H fun x84v H13=>
 x84v=(Value.tuple ⟨[]⟩)∧
 R (Value.tuple ⟨[]⟩) H13)
 (FnW Tryz.prog Zfe ⟨[(Value.slice d2a d2n d2c)]⟩ H fun x88v H14=>
 ∃x88:Int,x88v=(Value.int .u32 x88)∧
 Zb H14 ⟨r0b,3,none⟩ (Value.bool true) fun H15=>
 Zb H15 ⟨r0b,4,none⟩ (Value.int .u32 x88) fun H16=>
 R (Value.tuple ⟨[]⟩) H16))
 (IfB ((kind1:Int)==6)
 (IfB (((d2n:Int):Int) !=0)
 (FnW Tryz.prog Zdg ⟨[(Value.pointer (some ⟨r0b,0,none⟩)),(Value.int .i64 1)]⟩ H fun x101v H17=>
 x101v=(Value.tuple ⟨[]⟩)∧
 R (Value.tuple ⟨[]⟩) H17)
 (Zb H ⟨r0b,7,none⟩ (Value.bool true) fun H18=>
 R (Value.tuple ⟨[]⟩) H18))
 (IfB ((kind1:Int)==7)
 (∃x111:Bool,H.cell ⟨r0b,270,none⟩=some (Value.bool x111)∧
 IfB x111
 (Zxk r0b d2a d2n d2c 4 H R)
 (Zxk r0b d2a d2n d2c 2 H R))
 (IfB ((kind1:Int)==8)
 (IfB (((d2n:Int):Int)==0)
 (Zlq r0b d2a d2n d2c true H R)
 ((4:Int)≠0∧
 IfB (((Int.tmod (d2n:Int) 4):Int) !=0)
 (Zlq r0b d2a d2n d2c true H R)
 ((4:Int)≠0∧
 Zlq r0b d2a d2n d2c (decide (((IntKind.wrap .i64 (Int.tdiv (d2n:Int) 4)):Int)>32)) H R)))
 (IfB ((kind1:Int)==17)
 (∃x193:Bool,H.cell ⟨r0b,270,none⟩=some (Value.bool x193)∧
 IfB x193
 (R (Value.tuple ⟨[]⟩) H)
 (FnW Tryz.prog Zsb ⟨[(Value.slice d2a d2n d2c),(Value.bool true)]⟩ H fun x196v H36=>
 ∃(x196r0a:Option Addr) (x196r0n x196r0c:Nat),∃x196r1:Int,x196v=(Value.tuple ⟨[(Value.slice x196r0a x196r0n x196r0c),(Value.int .i64 x196r1)]⟩)∧
 IfB ((x196r1:Int) !=0)
 (FnW Tryz.prog Zdg ⟨[(Value.pointer (some ⟨r0b,0,none⟩)),(Value.int .i64 1)]⟩ H36 fun x202v H37=>
 x202v=(Value.tuple ⟨[]⟩)∧
 R (Value.tuple ⟨[]⟩) H37)
 (Zb H36 ⟨r0b,271,none⟩ (Value.bool true) fun H38=>
 Zb H38 ⟨r0b,272,none⟩ (Value.slice x196r0a x196r0n x196r0c) fun H39=>
 R (Value.tuple ⟨[]⟩) H39)))
 (IfB ((kind1:Int)==18)
 (∃x215:Bool,H.cell ⟨r0b,270,none⟩=some (Value.bool x215)∧
 IfB x215
 (R (Value.tuple ⟨[]⟩) H)
 (IfB (((d2n:Int):Int) !=8)
 (Zrc r0b d2a d2n d2c true H R)
 (FnW Tryz.prog Zfe ⟨[(Value.slice d2a d2n d2c)]⟩ H fun x221v H47=>
 ∃x221:Int,x221v=(Value.int .u32 x221)∧
 Zrc r0b d2a d2n d2c ((x221:Int)==0) H47 R)))
 (R (Value.tuple ⟨[]⟩) H)))))))))
theorem Zbzn (r0b:Nat) (kind1:Int) (d2a:Option Addr) (d2n:Nat) (d2c:Nat) (H:Heap) (R:Value->Heap->Prop):Zbly r0b kind1 d2a d2n d2c H R=Zc Tryz.prog Zbnl (Zg Tryz.f33) (env0 [(Value.pointer (some ⟨r0b,0,none⟩)),(Value.int .i64 kind1),(Value.slice d2a d2n d2c)]) H (RetW Tryz.prog Tryz.f33.results.toList R):=by kernel_rfl
theorem Zcux (r0b:Nat) (kind1:Int) (d2a:Option Addr) (d2n:Nat) (d2c:Nat) {H:Heap} {R:Value->Heap->Prop} (h:Zbly r0b kind1 d2a d2n d2c H fun v H1=>∀H2,Shut H H1 H2->R v H2):FnW Tryz.prog Zzo ⟨[(Value.pointer (some ⟨r0b,0,none⟩)),(Value.int .i64 kind1),(Value.slice d2a d2n d2c)]⟩ H R:=FnW.of_code Zcbn (by kernel_rfl) (Eq.mp (Zbzn r0b kind1 d2a d2n d2c H _) h)
end Go.Proofs.YthdffaojeghaeaaGreatDoor
end
section
set_option maxRecDepth 100000
namespace Go.Proofs.YthdffaojeghaeaaGreatDoor
open Go.Sh
def Zbsf:Plan:=⟨[],[(6,[5,6,7],[.int .i64,.slice,.int .i64],[0,1])],[],[]⟩
theorem Zcbu:Known Tryz.prog Znq Tryz.f34 Zbsf (Zg Tryz.f34):=by refine ⟨Tryz.func34,?_,?_,?_,?_,?_⟩<;>kernel_rfl
def Zut (two0a:Option Addr) (two0n:Nat) (two0c:Nat) (four1a:Option Addr) (four1n:Nat) (four1c:Nat) (out6a:Option Addr) (out6n:Nat) (out6c:Nat) (i7:Int) (s8b:Nat) (next6:(Int×(Option Addr×Nat×Nat)×Int×Unit)->Heap->Prop) (left5_1:Int) (H11:Heap) (R:Value->Heap->Prop):Prop:=
 ∃x57c0:Bool,H11.cell ⟨s8b,0,none⟩=some (Value.bool x57c0)∧∃(x57c1a:Option Addr) (x57c1n x57c1c:Nat),H11.cell ⟨s8b,1,none⟩=some (Value.slice x57c1a x57c1n x57c1c)∧NewW H11 (Obj.cells ⟨[(Value.bool x57c0),(Value.slice x57c1a x57c1n x57c1c)]⟩ Zbk) fun x58b H12=>
 AppW Tryz.prog #[Zdo,Zdo] Zdo [(Value.slice out6a out6n out6c),(Value.slice (some ⟨x58b,0,none⟩) 1 1)] H12 fun x59v H13=>
 ∃(x59a:Option Addr) (x59n x59c:Nat),x59v=(Value.slice x59a x59n x59c)∧
 next6 (left5_1,((x59a,x59n,x59c),((IntKind.wrap .i64 (i7+1)),()))) H13
def Zxi (out6a:Option Addr) (out6n:Nat) (out6c:Nat) (next6:(Int×(Option Addr×Nat×Nat)×Int×Unit)->Heap->Prop) (more9a:Option Addr) (more9n:Nat) (more9c:Nat) (H19:Heap) (R:Value->Heap->Prop):Prop:=
 AppW Tryz.prog #[Zdo,Zdo] Zdo [(Value.slice out6a out6n out6c),(Value.slice more9a more9n more9c)] H19 fun x109v H20=>
 ∃(x109a:Option Addr) (x109n x109c:Nat),x109v=(Value.slice x109a x109n x109c)∧
 R (Value.slice x109a x109n x109c) H20
def Zha (out6a:Option Addr) (out6n:Nat) (out6c:Nat) (x61a:Option Addr) (x61n:Nat) (x61c:Nat) (next6:(Int×(Option Addr×Nat×Nat)×Int×Unit)->Heap->Prop) (x86:Bool) (H16:Heap) (R:Value->Heap->Prop):Prop:=
 IfB x86
 (NilP out6a fun x95q=>
 InB (IntKind.wrap .i64 ((out6n:Int) - 1)) out6n fun x95i=>
 elemAt x95q x95i 2 fun x95p=>
 ∃(x97a:Option Addr) (x97n x97c:Nat),H16.cell ⟨x95p.block,x95p.off+1,none⟩=some (Value.slice x97a x97n x97c)∧
 NilP x61a fun x99q=>
 InB 0 x61n fun x99i=>
 elemAt x99q x99i 2 fun x99p=>
 ∃(x101a:Option Addr) (x101n x101c:Nat),H16.cell ⟨x99p.block,x99p.off+1,none⟩=some (Value.slice x101a x101n x101c)∧
 AppW Tryz.prog #[Zch,Zch] Zch [(Value.slice x97a x97n x97c),(Value.slice x101a x101n x101c)] H16 fun x102v H17=>
 ∃(x102a:Option Addr) (x102n x102c:Nat),x102v=(Value.slice x102a x102n x102c)∧
 NilP out6a fun x103q=>
 InB (IntKind.wrap .i64 ((out6n:Int) - 1)) out6n fun x103i=>
 elemAt x103q x103i 2 fun x103p=>
 Zb H17 ⟨x103p.block,x103p.off+1,none⟩ (Value.slice x102a x102n x102c) fun H18=>
 InC 1 x61n fun x106l=>
 Zxi out6a out6n out6c next6 (if x61c=x106l then x61a else Option.map (fun a=>Addr.add a (x106l*2)) x61a) (x61n - x106l) (x61c - x106l) H18 R)
 (Zxi out6a out6n out6c next6 x61a x61n x61c H16 R)
def Zse (two0a:Option Addr) (two0n:Nat) (two0c:Nat) (four1a:Option Addr) (four1n:Nat) (four1c:Nat) (left5:Int) (out6a:Option Addr) (out6n:Nat) (out6c:Nat) (i7:Int) (next6:(Int×(Option Addr×Nat×Nat)×Int×Unit)->Heap->Prop) (x27:Bool) (H6:Heap) (R:Value->Heap->Prop):Prop:=
 IfB x27
 (InC (IntKind.wrap .i64 (i7+1)) two0c fun x34h=>
 InC i7 x34h fun x34l=>
 FnW Tryz.prog Zme ⟨[(Value.slice (if two0c=x34l then two0a else Option.map (fun a=>Addr.add a (x34l*2)) two0a) (x34h - x34l) (two0c - x34l))]⟩ H6 fun x35v H7=>
 ∃(x35a:Option Addr) (x35n x35c:Nat),x35v=(Value.slice x35a x35n x35c)∧
 NilP x35a fun x36q=>
 InB 0 x35n fun x36i=>
 elemAt x36q x36i 2 fun x36p=>
 ∃x37c0:Bool,H7.cell x36p=some (Value.bool x37c0)∧∃(x37c1a:Option Addr) (x37c1n x37c1c:Nat),H7.cell ⟨x36p.block,x36p.off+1,none⟩=some (Value.slice x37c1a x37c1n x37c1c)∧NewW H7 (Obj.cells ⟨[(Value.bool false),(Value.slice none 0 0)]⟩ Zbk) fun s8b H8=>
 Zb H8 ⟨s8b,0,none⟩ (Value.bool x37c0) fun H9=>
 Zb H9 ⟨s8b,1,none⟩ (Value.slice x37c1a x37c1n x37c1c) fun H10=>
 ∃x39:Bool,H10.cell ⟨s8b,0,none⟩=some (Value.bool x39)∧
 IfB x39
 (Zut two0a two0n two0c four1a four1n four1c out6a out6n out6c i7 s8b next6 (IntKind.wrap .i64 (left5 - 1)) H10 R)
 (∃(x43a:Option Addr) (x43n x43c:Nat),H10.cell ⟨s8b,1,none⟩=some (Value.slice x43a x43n x43c)∧
 ∃(x46a:Option Addr) (x46n x46c:Nat),H10.cell ⟨s8b,1,none⟩=some (Value.slice x46a x46n x46c)∧
 InC (min left5 (x46n:Int)) x43c fun x49h=>
 Zb H10 ⟨s8b,1,none⟩ (Value.slice x43a x49h x43c) fun H14=>
 ∃(x53a:Option Addr) (x53n x53c:Nat),H14.cell ⟨s8b,1,none⟩=some (Value.slice x53a x53n x53c)∧
 Zut two0a two0n two0c four1a four1n four1c out6a out6n out6c i7 s8b next6 (IntKind.wrap .i64 (left5 - (x53n:Int))) H14 R))
 (FnW Tryz.prog Zme ⟨[(Value.slice four1a four1n four1c)]⟩ H6 fun x61v H15=>
 ∃(x61a:Option Addr) (x61n x61c:Nat),x61v=(Value.slice x61a x61n x61c)∧
 IfB (decide (((out6n:Int):Int)>0))
 (IfB (decide (((x61n:Int):Int)>0))
 (NilP out6a fun x75q=>
 InB (IntKind.wrap .i64 ((out6n:Int) - 1)) out6n fun x75i=>
 elemAt x75q x75i 2 fun x75p=>
 ∃x77:Bool,H15.cell x75p=some (Value.bool x77)∧
 IfB (!x77)
 (NilP x61a fun x82q=>
 InB 0 x61n fun x82i=>
 elemAt x82q x82i 2 fun x82p=>
 ∃x84:Bool,H15.cell x82p=some (Value.bool x84)∧
 Zha out6a out6n out6c x61a x61n x61c next6 (!x84) H15 R)
 (Zha out6a out6n out6c x61a x61n x61c next6 false H15 R))
 (Zha out6a out6n out6c x61a x61n x61c next6 false H15 R))
 (Zha out6a out6n out6c x61a x61n x61c next6 false H15 R))
def Zbei (two0a:Option Addr) (two0n:Nat) (two0c:Nat) (four1a:Option Addr) (four1n:Nat) (four1c:Nat) (left5:Int) (out6a:Option Addr) (out6n:Nat) (out6c:Nat) (i7:Int) (H5:Heap) (next6:(Int×(Option Addr×Nat×Nat)×Int×Unit)->Heap->Prop) (R:Value->Heap->Prop):Prop:=
 IfB (decide ((i7:Int)<(two0n:Int)))
 (Zse two0a two0n two0c four1a four1n four1c left5 out6a out6n out6c i7 next6 (decide ((left5:Int)>0)) H5 R)
 (Zse two0a two0n two0c four1a four1n four1c left5 out6a out6n out6c i7 next6 false H5 R)
def Zbbl (two0a:Option Addr) (two0n:Nat) (two0c:Nat) (four1a:Option Addr) (four1n:Nat) (four1c:Nat) (H:Heap) (R:Value->Heap->Prop):Prop:=
 FnW Tryz.prog Zox ⟨[(Value.slice two0a two0n two0c)]⟩ H fun x11v H1=>
 ∃x11:Int,x11v=(Value.int .i64 x11)∧
 FnW Tryz.prog Zox ⟨[(Value.slice four1a four1n four1c)]⟩ H1 fun x13v H2=>
 ∃x13:Int,x13v=(Value.int .i64 x13)∧
 IfB (decide (((IntKind.wrap .i64 (x11 - x13)):Int)<0))
 (FnW Tryz.prog Zme ⟨[(Value.slice two0a two0n two0c)]⟩ H2 fun x18v H3=>
 ∃(x18a:Option Addr) (x18n x18c:Nat),x18v=(Value.slice x18a x18n x18c)∧
 R (Value.slice x18a x18n x18c) H3)
 (NewW H2 (Obj.cells ⟨[]⟩ Zbk) fun x19b H4=>
 Zgk (Int×(Option Addr×Nat×Nat)×Int×Unit) ((IntKind.wrap .i64 (x11 - x13)),(((some ⟨x19b,0,none⟩),0,0),(0,()))) H4 fun x H next=>∀_g:Env,Zbei two0a two0n two0c four1a four1n four1c x.1 x.2.1.1 x.2.1.2.1 x.2.1.2.2 x.2.2.1 H next R)
theorem Zcsp (two0a:Option Addr) (two0n:Nat) (two0c:Nat) (four1a:Option Addr) (four1n:Nat) (four1c:Nat) (H:Heap) (R:Value->Heap->Prop):Zbbl two0a two0n two0c four1a four1n four1c H R=Zc Tryz.prog Zbsf (Zg Tryz.f34) (env0 [(Value.slice two0a two0n two0c),(Value.slice four1a four1n four1c)]) H (RetW Tryz.prog Tryz.f34.results.toList R):=by kernel_rfl
theorem Zcaf (two0a:Option Addr) (two0n:Nat) (two0c:Nat) (four1a:Option Addr) (four1n:Nat) (four1c:Nat) {H:Heap} {R:Value->Heap->Prop} (h:Zbbl two0a two0n two0c four1a four1n four1c H fun v H1=>∀H2,Shut H H1 H2->R v H2):FnW Tryz.prog Znq ⟨[(Value.slice two0a two0n two0c),(Value.slice four1a four1n four1c)]⟩ H R:=FnW.of_code Zcbu (by kernel_rfl) (Eq.mp (Zcsp two0a two0n two0c four1a four1n four1c H _) h)
def Zbpi:Plan:=⟨[(5,[0,1,2,3,4,5,6,7,8,9,10,11,12,13,14,15,16],[17])],[(3,[3,4],[.slice,.int .i64],[0])],[],[]⟩
theorem Zcjb:Known Tryz.prog Zme Tryz.f58 Zbpi (Zg Tryz.f58):=by refine ⟨Tryz.func58,?_,?_,?_,?_,?_⟩<;>kernel_rfl
def Zben (p0a:Option Addr) (p0n:Nat) (p0c:Nat) (out3a:Option Addr) (out3n:Nat) (out3c:Nat) (i4:Int) (H2:Heap) (next3:((Option Addr×Nat×Nat)×Int×Unit)->Heap->Prop) (R:Value->Heap->Prop):Prop:=
 IfB (decide ((i4:Int)<(p0n:Int)))
 (∃bs:List Nat,(∀b∈bs,∃o,H2 b=some o)∧
 NilP p0a fun x15q=>
 InB i4 p0n fun x15i=>
 elemAt x15q x15i 2 fun x15p=>
 x15p.block∈bs∧∃x17:Bool,H2.cell x15p=some (Value.bool x17)∧
 NewW H2 (Obj.cells ⟨[]⟩ Zba) fun x18b H3=>
 NilP p0a fun x21q=>
 InB i4 p0n fun x21i=>
 elemAt x21q x21i 2 fun x21p=>
 ∃(x23a:Option Addr) (x23n x23c:Nat),H3.cell ⟨x21p.block,x21p.off+1,none⟩=some (Value.slice x23a x23n x23c)∧
 AppW Tryz.prog #[Zch,Zch] Zch [(Value.slice (some ⟨x18b,0,none⟩) 0 0),(Value.slice x23a x23n x23c)] H3 fun x24v H4=>
 ∃(x24a:Option Addr) (x24n x24c:Nat),x24v=(Value.slice x24a x24n x24c)∧
 Zcl bs H2 H4∧NewW H4 (Obj.cells ⟨[(Value.bool x17),(Value.slice x24a x24n x24c)]⟩ Zbk) fun x26b H5=>
 AppW Tryz.prog #[Zdo,Zdo] Zdo [(Value.slice out3a out3n out3c),(Value.slice (some ⟨x26b,0,none⟩) 1 1)] H5 fun x27v H6=>
 ∃(x27a:Option Addr) (x27n x27c:Nat),x27v=(Value.slice x27a x27n x27c)∧
 next3 ((x27a,x27n,x27c),((IntKind.wrap .i64 (i4+1)),())) H6)
 (R (Value.slice out3a out3n out3c) H2)
def Zbda (p0a:Option Addr) (p0n:Nat) (p0c:Nat) (H:Heap) (R:Value->Heap->Prop):Prop:=
 NewW H (Obj.cells ⟨[]⟩ Zbk) fun x5b H1=>
 Zgk ((Option Addr×Nat×Nat)×Int×Unit) (((some ⟨x5b,0,none⟩),0,0),(0,())) H1 fun x H next=>∀_g:Env,Zben p0a p0n p0c x.1.1 x.1.2.1 x.1.2.2 x.2.1 H next R
theorem Zcod (p0a:Option Addr) (p0n:Nat) (p0c:Nat) (H:Heap) (R:Value->Heap->Prop):Zbda p0a p0n p0c H R=Zc Tryz.prog Zbpi (Zg Tryz.f58) (env0 [(Value.slice p0a p0n p0c)]) H (RetW Tryz.prog Tryz.f58.results.toList R):=by kernel_rfl
theorem Zcix (p0a:Option Addr) (p0n:Nat) (p0c:Nat) {H:Heap} {R:Value->Heap->Prop} (h:Zbda p0a p0n p0c H fun v H1=>∀H2,Shut H H1 H2->R v H2):FnW Tryz.prog Zme ⟨[(Value.slice p0a p0n p0c)]⟩ H R:=FnW.of_code Zcjb (by kernel_rfl) (Eq.mp (Zcod p0a p0n p0c H _) h)
end Go.Proofs.YthdffaojeghaeaaGreatDoor
end
