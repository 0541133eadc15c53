/-
  NUMBERS BY NAME:printed by a program of ours over this translation.
-/
import Derived.Test.YtaljkjokbdpdoaaGreatEC
import Derived.Test.YtaljkjokbdpdoaaGreatRows
import Derived.Shelf.Sort.Plain
import Derived.Shelf.Slices.In.SortNone
import Derived.Test.YtaljkjokbdpdoaaGreatProg
set_option linter.all false
section
set_option maxRecDepth 100000
set_option maxHeartbeats 4000000
namespace Go.Proofs.YtaljkjokbdpdoaaGreat
open Go.Sh
open Value renaming int -> vI, slice -> vS, pointer -> vP, bool -> vB, tuple -> vT, agg -> vA
open IntKind renaming wrap -> vW, bits -> wB, i64 -> wI, u32 -> vU, u8 -> wU
open Go.Proofs.Tryz renaming prog -> wP
open Option renaming map -> vM
def Zbw (a:Func):Code:=match a.body with | some c=>c | none=> .skip
abbrev T_:TypeId:=0
abbrev Zl:TypeId:=3
abbrev Zbs:TypeId:=4
abbrev Zh:TypeId:=5
abbrev Zfg:TypeId:=22
abbrev Znx:TypeId:=23
abbrev Zgr:TypeId:=27
abbrev Zbt:TypeId:=29
abbrev Zfe:TypeId:=30
abbrev Znw:TypeId:=32
abbrev Zjd:TypeId:=33
abbrev Zny:TypeId:=37
abbrev Zd:TypeId:=40
abbrev Zm:TypeId:=42
abbrev Ziz:TypeId:=44
abbrev Zr:TypeId:=48
abbrev Zcc:TypeId:=49
abbrev Zdz:TypeId:=54
abbrev Zen:TypeId:=59
abbrev Zjc:TypeId:=65
abbrev Zbdc:TypeId:=68
abbrev Zbi:TypeId:=84
abbrev Zfd:TypeId:=85
abbrev Zdy:TypeId:=86
abbrev Zvd:TypeId:=88
abbrev Zeo:TypeId:=90
abbrev Zja:TypeId:=92
abbrev Zfy:TypeId:=94
abbrev Zve:TypeId:=99
abbrev Zcx:TypeId:=104
abbrev Zfx:TypeId:=108
abbrev Zff:TypeId:=118
abbrev Zvb:TypeId:=130
abbrev Zhs:TypeId:=134
abbrev Zjb:TypeId:=138
abbrev Zem:TypeId:=171
abbrev Zhu:TypeId:=178
abbrev Zhv:TypeId:=185
abbrev Zva:TypeId:=187
abbrev Zht:TypeId:=190
abbrev Zgs:TypeId:=221
abbrev Zbsm:TypeId:=225
abbrev Zhr:TypeId:=227
abbrev Zlb:TypeId:=229
abbrev Zvc:TypeId:=256
abbrev Zlc:TypeId:=265
abbrev Zbeq:FuncId:=5
abbrev Zwp:FuncId:=6
abbrev Zlk:FuncId:=7
abbrev Zor:FuncId:=8
abbrev Zos:FuncId:=10
abbrev Zlw:FuncId:=11
abbrev Zln:FuncId:=12
abbrev Zpp:FuncId:=13
abbrev Zpo:FuncId:=14
abbrev Zpu:FuncId:=15
abbrev Zwq:FuncId:=17
abbrev Zie:FuncId:=18
abbrev Zlz:FuncId:=19
abbrev Zgz:FuncId:=20
abbrev Zlm:FuncId:=24
abbrev Zwr:FuncId:=25
abbrev Zmc:FuncId:=26
abbrev Zoq:FuncId:=27
abbrev Zot:FuncId:=28
abbrev Zlo:FuncId:=29
abbrev Zyi:FuncId:=30
abbrev Zou:FuncId:=31
abbrev Zov:FuncId:=32
abbrev Zha:FuncId:=33
abbrev Zqa:FuncId:=34
abbrev Zxs:FuncId:=35
abbrev Zws:FuncId:=37
abbrev Zmg:FuncId:=38
abbrev Zic:FuncId:=39
abbrev Zdn:FuncId:=40
abbrev Zqb:FuncId:=41
abbrev Zwi:FuncId:=42
abbrev Zlx:FuncId:=43
abbrev Zqc:FuncId:=44
abbrev Zow:FuncId:=45
abbrev Zyj:FuncId:=46
abbrev Zyc:FuncId:=47
abbrev Zwt:FuncId:=48
abbrev Zwe:FuncId:=49
abbrev Zyd:FuncId:=50
abbrev Zji:FuncId:=51
abbrev Zxz:FuncId:=52
abbrev Zpq:FuncId:=53
abbrev Zxu:FuncId:=54
abbrev Zwb:FuncId:=55
abbrev Zqd:FuncId:=56
abbrev Zxr:FuncId:=57
abbrev Zqe:FuncId:=58
abbrev Zjj:FuncId:=59
abbrev Zox:FuncId:=60
abbrev Zoy:FuncId:=65
abbrev Zmh:FuncId:=66
abbrev Zxm:FuncId:=67
abbrev Zbu:FuncId:=68
abbrev Zeb:FuncId:=69
abbrev Zwn:FuncId:=70
abbrev Zbes:FuncId:=71
abbrev Zjk:FuncId:=72
abbrev Zoz:FuncId:=73
abbrev Zly:FuncId:=74
abbrev Zjr:FuncId:=75
abbrev Zdl:FuncId:=76
abbrev Zmi:FuncId:=77
abbrev Zqf:FuncId:=78
abbrev Zya:FuncId:=79
abbrev Zdm:FuncId:=80
abbrev Zpv:FuncId:=81
abbrev Zpw:FuncId:=82
abbrev Zmb:FuncId:=83
abbrev Zwu:FuncId:=84
abbrev Zwv:FuncId:=85
abbrev Zpa:FuncId:=86
abbrev Zxy:FuncId:=87
abbrev Zxl:FuncId:=88
abbrev Zww:FuncId:=89
abbrev Zpx:FuncId:=90
abbrev Zxt:FuncId:=91
abbrev Zxn:FuncId:=92
abbrev Zq:FuncId:=93
abbrev Zqg:FuncId:=94
abbrev Zyl:FuncId:=95
abbrev Zxv:FuncId:=96
abbrev Zcz:FuncId:=97
abbrev Zmj:FuncId:=98
abbrev Zjv:FuncId:=99
abbrev Zma:FuncId:=100
abbrev Zlp:FuncId:=101
abbrev Zpn:FuncId:=103
abbrev Zlq:FuncId:=104
abbrev Zpb:FuncId:=106
abbrev Zber:FuncId:=107
abbrev Zol:FuncId:=108
abbrev Zpy:FuncId:=109
abbrev Zwo:FuncId:=110
abbrev Zbet:FuncId:=111
abbrev Zwd:FuncId:=112
abbrev Zlr:FuncId:=113
abbrev Zif:FuncId:=114
abbrev Zxq:FuncId:=115
abbrev Zwx:FuncId:=116
abbrev Zwm:FuncId:=117
abbrev Zop:FuncId:=118
abbrev Zct:FuncId:=119
abbrev Zid:FuncId:=120
abbrev Zpz:FuncId:=121
abbrev Zjw:FuncId:=122
abbrev Zjx:FuncId:=123
abbrev Zwy:FuncId:=124
abbrev Zyb:FuncId:=125
abbrev Zjq:FuncId:=126
abbrev Zcn:FuncId:=127
abbrev Zpc:FuncId:=128
abbrev Zpd:FuncId:=129
abbrev Zmk:FuncId:=130
abbrev Zpe:FuncId:=131
abbrev Zye:FuncId:=132
abbrev Zig:FuncId:=133
abbrev Zjt:FuncId:=134
abbrev Zwh:FuncId:=135
abbrev Zxo:FuncId:=136
abbrev Zjl:FuncId:=137
abbrev Zom:FuncId:=138
abbrev Zls:FuncId:=139
abbrev Zjm:FuncId:=140
abbrev Zjs:FuncId:=141
abbrev Zpr:FuncId:=142
abbrev Zfa:FuncId:=143
abbrev Zyf:FuncId:=144
abbrev Zmd:FuncId:=145
abbrev Zyk:FuncId:=146
abbrev Zxw:FuncId:=147
abbrev Zyg:FuncId:=148
abbrev Zwf:FuncId:=149
abbrev Zfk:FuncId:=150
abbrev Zwz:FuncId:=152
abbrev Zpf:FuncId:=153
abbrev Zpg:FuncId:=154
abbrev Zxa:FuncId:=155
abbrev Zez:FuncId:=156
abbrev Zph:FuncId:=157
abbrev Zpi:FuncId:=158
abbrev Zdf:FuncId:=159
abbrev Zwl:FuncId:=160
abbrev Zym:FuncId:=163
abbrev Zxb:FuncId:=164
abbrev Zxc:FuncId:=165
abbrev Zxp:FuncId:=166
abbrev Zpj:FuncId:=167
abbrev Zwc:FuncId:=168
abbrev Zxd:FuncId:=169
abbrev Zlt:FuncId:=170
abbrev Zju:FuncId:=171
abbrev Zon:FuncId:=172
abbrev Zme:FuncId:=173
abbrev Zib:FuncId:=174
abbrev Zjn:FuncId:=175
abbrev Zxe:FuncId:=176
abbrev Zxf:FuncId:=177
abbrev Zxg:FuncId:=178
abbrev Zlu:FuncId:=179
abbrev Zwg:FuncId:=180
abbrev Zpk:FuncId:=181
abbrev Zgy:FuncId:=182
abbrev Zbuw:FuncId:=183
abbrev Zxh:FuncId:=184
abbrev Zxi:FuncId:=185
abbrev Zpl:FuncId:=186
abbrev Zwj:FuncId:=187
abbrev Zmf:FuncId:=188
abbrev Zjo:FuncId:=189
abbrev Zpm:FuncId:=190
abbrev Zwk:FuncId:=191
abbrev Zyp:FuncId:=192
abbrev Zxj:FuncId:=194
abbrev Zps:FuncId:=195
abbrev Zjp:FuncId:=207
abbrev Zwa:FuncId:=208
abbrev Zlv:FuncId:=209
abbrev Zgb:FuncId:=210
abbrev Zxx:FuncId:=211
abbrev Zoo:FuncId:=212
abbrev Zyh:FuncId:=213
abbrev Zxk:FuncId:=214
abbrev Zyn:FuncId:=215
abbrev Zbux:FuncId:=216
abbrev Zpt:FuncId:=217
abbrev Zyo:FuncId:=224
abbrev Zll:FuncId:=225
theorem Zc {i:FuncId} {a:Func} (l:wP.funcs[i]? =some a) (plan:Plan) {d:List Value} {b:Heap} {g:Value->Heap->Prop} {j:Prop}
    (o:(Nat.ble d.length a.ntmps&&(a.body.isSome&&(!(a.name== "runtime.NumGoroutine")&&(codeOk wP a.ntmps plan none (Zbw a)&&a.results.toList.all (fun m=>match m with | .tmp t=>Nat.blt t a.ntmps | .cell t _=>Nat.blt t a.ntmps)))))=true)
    (e:j=Ze wP plan (Zbw a) (env0 d) b (RetW wP a.results.toList fun n k=>∀f,Shut b k f->g n f)) (h:j):FnW wP i ⟨d⟩ b g:=by
  have x:=Bool.and_eq_true_iff.mp o;have y:=Bool.and_eq_true_iff.mp x.2;have z:=Bool.and_eq_true_iff.mp y.2;have w:=Bool.and_eq_true_iff.mp z.2;refine FnW.of_code (plan:=plan) (c:=Zbw a) ⟨l,?_,by cases hq:(a.name== "runtime.NumGoroutine")<;>simp_all,by kernel_rfl,w.1,w.2⟩ x.1 (e▸h)
  have hb:=y.1;unfold Zbw;cases hq:a.body with
  | none=>rw [hq] at hb;cases hb
  | some c=>rfl
end Go.Proofs.YtaljkjokbdpdoaaGreat
end
section
namespace Go.Proofs
open Go.Shelf
open Value renaming int -> vI, slice -> vS, pointer -> vP, bool -> vB, tuple -> vT, agg -> vA
open IntKind renaming wrap -> vW, bits -> wB, i64 -> wI, u32 -> vU, u8 -> wU
open Go.Proofs.Tryz renaming prog -> wP
open Option renaming map -> vM
def Tryz.lays189_ren:Go.Shelf.Ren:=⟨fun | 189=>111 | 125=>162 | 257=>161 | 128=>205 | 129=>206 | 294=>196 | 295=>197 | 296=>198 | 297=>199 | 298=>200 | 299=>201 | 216=>202 | 300=>203 | 301=>204 | 328=>218 | 329=>219 | 330=>220 | 331=>221 | 332=>222 | 215=>223 | 343=>226 | n=>n,fun | 28=>29 | 3=>3 | 46=>155 | 0=>0 | 51=>22 | 53=>110 | 4=>4 | 183=>247 | 182=>246 | 131=>157 | 5=>5 | 9=>9 | 218=>266 | 222=>270 | 228=>272 | 229=>273 | n=>n,fun | n=>n⟩
theorem Tryz.lays189:Go.Proofs.Lays.n189 wP Tryz.lays189_ren:={
  mixed:=by kernel_rfl
  f125:=Tryz.func162.trans (congrArg some (by kernel_rfl))
  f128:=Tryz.func205.trans (congrArg some (by kernel_rfl))
  f129:=Tryz.func206.trans (congrArg some (by kernel_rfl))
  f189:=Tryz.func111.trans (congrArg some (by kernel_rfl))
  f215:=Tryz.func223.trans (congrArg some (by kernel_rfl))
  f216:=Tryz.func202.trans (congrArg some (by kernel_rfl))
  f257:=Tryz.func161.trans (congrArg some (by kernel_rfl))
  f294:=Tryz.func196.trans (congrArg some (by kernel_rfl))
  f295:=Tryz.func197.trans (congrArg some (by kernel_rfl))
  f296:=Tryz.func198.trans (congrArg some (by kernel_rfl))
  f297:=Tryz.func199.trans (congrArg some (by kernel_rfl))
  f298:=Tryz.func200.trans (congrArg some (by kernel_rfl))
  f299:=Tryz.func201.trans (congrArg some (by kernel_rfl))
  f300:=Tryz.func203.trans (congrArg some (by kernel_rfl))
  f301:=Tryz.func204.trans (congrArg some (by kernel_rfl))
  f328:=Tryz.func218.trans (congrArg some (by kernel_rfl))
  f329:=Tryz.func219.trans (congrArg some (by kernel_rfl))
  f330:=Tryz.func220.trans (congrArg some (by kernel_rfl))
  f331:=Tryz.func221.trans (congrArg some (by kernel_rfl))
  f332:=Tryz.func222.trans (congrArg some (by kernel_rfl))
  f343:=Tryz.func226.trans (congrArg some (by kernel_rfl))
  t0:=Tryz.underlying0
  a0:=Tryz.isAgg0
  z0:=Tryz.sizeOf0
  v0:=Tryz.zeroValue0
  t3:=Tryz.underlying3
  a3:=Tryz.isAgg3
  z3:=Tryz.sizeOf3
  v3:=Tryz.zeroValue3
  t4:=Tryz.underlying4
  a4:=Tryz.isAgg4
  z4:=Tryz.sizeOf4
  v4:=Tryz.zeroValue4
  t5:=Tryz.underlying5
  a5:=Tryz.isAgg5
  z5:=Tryz.sizeOf5
  v5:=Tryz.zeroValue5
  t9:=Tryz.underlying9
  a9:=Tryz.isAgg9
  z9:=Tryz.sizeOf9
  v9:=Tryz.zeroValue9
  t28:=Tryz.underlying29
  a28:=Tryz.isAgg29
  z28:=Tryz.sizeOf29
  v28:=Tryz.zeroValue29
  t46:=Tryz.underlying155
  a46:=Tryz.isAgg155
  z46:=Tryz.sizeOf155
  v46:=Tryz.zeroValue155
  t51:=Tryz.underlying22
  a51:=Tryz.isAgg22
  z51:=Tryz.sizeOf22
  v51:=Tryz.zeroValue22
  t53:=Tryz.underlying110
  a53:=Tryz.isAgg110
  z53:=Tryz.sizeOf110
  v53:=Tryz.zeroValue110
  t131:=Tryz.underlying157
  a131:=Tryz.isAgg157
  z131:=Tryz.sizeOf157
  v131:=Tryz.zeroValue157
  t182:=Tryz.underlying246
  a182:=Tryz.isAgg246
  z182:=Tryz.sizeOf246
  v182:=Tryz.zeroValue246
  t183:=Tryz.underlying247
  a183:=Tryz.isAgg247
  z183:=Tryz.sizeOf247
  v183:=Tryz.zeroValue247
  t218:=Tryz.underlying266
  a218:=Tryz.isAgg266
  z218:=Tryz.sizeOf266
  v218:=Tryz.zeroValue266
  t222:=Tryz.underlying270
  a222:=Tryz.isAgg270
  z222:=Tryz.sizeOf270
  v222:=Tryz.zeroValue270
  t228:=Tryz.underlying272
  a228:=Tryz.isAgg272
  z228:=Tryz.sizeOf272
  v228:=Tryz.zeroValue272
  t229:=Tryz.underlying273
  a229:=Tryz.isAgg273
  z229:=Tryz.sizeOf273
  v229:=Tryz.zeroValue273 }
open Go.Sort Go.RowKit in
theorem Tryz.slices_Sort_int (blk off cap:Nat) (zs:List Int) (w:World) (hH:Holds (vI wI) w blk off zs.toArray) (hblk:blk<w.heap.size) (hsz:zs.length<4611686018427387904):
    Calls wP 111 #[.slice (some ⟨blk,off,none⟩) zs.length cap] w fun a d=>
      a= .returned (.tuple #[])∧∃b c,d=grow (putRow (vI wI) (Sort.ahead w b) blk off (zs.mergeSort fun e f=>decide (e <= f)).toArray) c:=Any.slices_Sort_int Tryz.lays189 blk off cap zs w hH hblk hsz
open Go.RowKit Go.Sort in
theorem Tryz.slices_Sort_int_none (p:Option Addr) (cap:Nat) (w:World):
    Calls wP 111 #[.slice p 0 cap] w fun a b=>a= .returned (.tuple #[])∧b=w:=Any.slices_Sort_int_none Tryz.lays189 p cap w
end Go.Proofs
end
section
set_option maxRecDepth 100000
namespace Go.Proofs.YtaljkjokbdpdoaaGreat
open Go.Sh
open Value renaming int -> vI, slice -> vS, pointer -> vP, bool -> vB, tuple -> vT, agg -> vA
open IntKind renaming wrap -> vW, bits -> wB, i64 -> wI, u32 -> vU, u8 -> wU
open Go.Proofs.Tryz renaming prog -> wP
open Option renaming map -> vM
def Zum (m l n k:Int) (o:Bool) (b:Heap) (c:Value->Heap->Prop):Prop:=
 IfB o
 (c (vT ⟨[(vP none),(vS none 0 0),(vI wI 2)]⟩) b)
 (FnW wP Zoz ⟨[(vI wI m),(vI wI l),(vI wI n),(vI vU k)]⟩ b fun p g=>
 ∃a,p=vP a∧
 NilP a fun q=>
 Za g q (vI wI 1) fun h=>
 FnW wP Zly ⟨[(vP a)]⟩ h fun r i=>
 r=vT ⟨[]⟩∧
 FnW wP Zjr ⟨[(vP a)]⟩ i fun s j=>
 ∃d f e,s=vS d f e∧
 c (vT ⟨[(vP a),(vS d f e),(vI wI 0)]⟩) j)
def Zbqv (b a c e:Int) (j:Heap) (d:Value->Heap->Prop):Prop:=
 FnW wP Zjk ⟨[(vI wI a)]⟩ j fun k f=>
 ∃h,k=vB h∧
 IfB (!h)
 (Zum b a c e true f d)
 (FnW wP Zjk ⟨[(vI wI c)]⟩ f fun l g=>
 ∃i,l=vB i∧
 IfB (!i)
 (Zum b a c e true g d)
 (Zum b a c e (decide (b<0)) g d))
theorem Zcki (f e g d:Int) {a:Heap} {c:Value->Heap->Prop} (i:Zbqv f e g d a fun j h=>∀b,Shut a h b->c j b):FnW wP Zyi ⟨[(vI wI f),(vI wI e),(vI wI g),(vI vU d)]⟩ a c:=Zc Tryz.func30 ⟨[],[],[],[]⟩ (by kernel_rfl) (by kernel_rfl) i
def Zun (g:Nat) (h:Int) (d:Heap) (f:Value->Heap->Prop):Prop:=
 FnW wP Zjr ⟨[(vP (some ⟨g,0,none⟩))]⟩ d fun i e=>
 ∃a c b,i=vS a c b∧
 f (vT ⟨[(vS a c b),(vI wI h)]⟩) e
def Zbqy (e:Nat) (h Y Z a0 a1 a2 a3 a4 a5:Int) (a6:Option Addr) (a8 a7:Nat) (U:Heap) (g:Value->Heap->Prop):Prop:=
 NewW U (Obj.cells ⟨[(vI wI Y),(vI wI Z),(vI vU a0),(vI vU a1),(vI wI a2),(vI wI a3),(vI wI a4),(vI wI a5),(vS a6 a8 a7)]⟩ Zm) fun a V=>
 FnW wP Zwv ⟨[(vP (some ⟨e,0,none⟩)),(vI wI h)]⟩ V fun a9 b=>
 ∃i,a9=vI wI i∧
 IfB (i !=0)
 (g (vT ⟨[(vS none 0 0),(vI wI i)]⟩) b)
 (∃k,b.cell ⟨a,0,none⟩=some (vI wI k)∧∃l,b.cell ⟨a,1,none⟩=some (vI wI l)∧∃m,b.cell ⟨a,2,none⟩=some (vI vU m)∧∃n,b.cell ⟨a,3,none⟩=some (vI vU n)∧∃o,b.cell ⟨a,4,none⟩=some (vI wI o)∧∃p,b.cell ⟨a,5,none⟩=some (vI wI p)∧∃q,b.cell ⟨a,6,none⟩=some (vI wI q)∧∃r,b.cell ⟨a,7,none⟩=some (vI wI r)∧∃s u t,b.cell ⟨a,8,none⟩=some (vS s u t)∧FnW wP Zpa ⟨[(vA ⟨[(vI wI k),(vI wI l),(vI vU m),(vI vU n),(vI wI o),(vI wI p),(vI wI q),(vI wI r),(vS s u t)]⟩)]⟩ b fun b0 f=>
 ∃v,b0=vB v∧
 IfB (!v)
 (g (vT ⟨[(vS none 0 0),(vI wI 2)]⟩) f)
 (∃j,f.cell ⟨e,0,none⟩=some (vI wI j)∧
 IfB (j==0)
 (g (vT ⟨[(vS none 0 0),(vI wI 150)]⟩) f)
 (IfB (j==1)
 (Za f ⟨e,10,none⟩ (vI wI h) fun c=>
 ∃I,c.cell ⟨a,0,none⟩=some (vI wI I)∧∃J,c.cell ⟨a,1,none⟩=some (vI wI J)∧∃K,c.cell ⟨a,2,none⟩=some (vI vU K)∧∃L,c.cell ⟨a,3,none⟩=some (vI vU L)∧∃M,c.cell ⟨a,4,none⟩=some (vI wI M)∧∃N,c.cell ⟨a,5,none⟩=some (vI wI N)∧∃O,c.cell ⟨a,6,none⟩=some (vI wI O)∧∃P,c.cell ⟨a,7,none⟩=some (vI wI P)∧∃Q S R,c.cell ⟨a,8,none⟩=some (vS Q S R)∧FnW wP Zxy ⟨[(vP (some ⟨e,0,none⟩)),(vA ⟨[(vI wI I),(vI wI J),(vI vU K),(vI vU L),(vI wI M),(vI wI N),(vI wI O),(vI wI P),(vS Q S R)]⟩)]⟩ c fun b2 W=>
 ∃T,b2=vI wI T∧
 Zun e T W g)
 (Za f ⟨e,10,none⟩ (vI wI h) fun d=>
 ∃w,d.cell ⟨a,0,none⟩=some (vI wI w)∧∃x,d.cell ⟨a,1,none⟩=some (vI wI x)∧∃y,d.cell ⟨a,2,none⟩=some (vI vU y)∧∃z,d.cell ⟨a,3,none⟩=some (vI vU z)∧∃A,d.cell ⟨a,4,none⟩=some (vI wI A)∧∃B,d.cell ⟨a,5,none⟩=some (vI wI B)∧∃C,d.cell ⟨a,6,none⟩=some (vI wI C)∧∃D,d.cell ⟨a,7,none⟩=some (vI wI D)∧∃E G F,d.cell ⟨a,8,none⟩=some (vS E G F)∧FnW wP Zxl ⟨[(vP (some ⟨e,0,none⟩)),(vA ⟨[(vI wI w),(vI wI x),(vI vU y),(vI vU z),(vI wI A),(vI wI B),(vI wI C),(vI wI D),(vS E G F)]⟩)]⟩ d fun b1 X=>
 ∃H,b1=vI wI H∧
 Zun e H X g))))
theorem Zckk (d:Nat) (e f g h i j k l m:Int) (n:Option Addr) (p o:Nat) {a:Heap} {c:Value->Heap->Prop} (r:Zbqy d e f g h i j k l m n p o a fun s q=>∀b,Shut a q b->c s b):FnW wP Zyj ⟨[(vP (some ⟨d,0,none⟩)),(vI wI e),(vA ⟨[(vI wI f),(vI wI g),(vI vU h),(vI vU i),(vI wI j),(vI wI k),(vI wI l),(vI wI m),(vS n p o)]⟩)]⟩ a c:=Zc Tryz.func46 ⟨[],[],[],[]⟩ (by kernel_rfl) (by kernel_rfl) r
def Zblr (c:Nat) (f:Heap) (b:Value->Heap->Prop):Prop:=
 FnW wP Zlp ⟨[(vP (some ⟨c,0,none⟩))]⟩ f fun g a=>
 ∃d,g=vB d∧
 IfB (!d)
 (b (vI wI 0) a)
 (∃e,a.cell ⟨c,0,none⟩=some (vI wI e)∧
 b (vI wI e) a)
theorem Zcfg (d:Nat) {a:Heap} {c:Value->Heap->Prop} (f:Zblr d a fun g e=>∀b,Shut a e b->c g b):FnW wP Zox ⟨[(vP (some ⟨d,0,none⟩))]⟩ a c:=Zc Tryz.func60 ⟨[],[],[],[]⟩ (by kernel_rfl) (by kernel_rfl) f
def Zbcu (j k:Int) (h:Option Addr) (a i:Nat) (d:Heap) (g:Value->Heap->Prop):Prop:=
 FnW wP Zpy ⟨[(vI vU j),(vI vU k),(vI wU 6),(vI wI (a:Int))]⟩ d fun l e=>
 ∃b,l=vI vU b∧
 FnW wP Zol ⟨[(vI vU b),(vS h a i)]⟩ e fun m f=>
 ∃c,m=vI vU c∧
 g (vI vU c) f
theorem Zbrt (g h:Int) (d:Option Addr) (f e:Nat) {a:Heap} {c:Value->Heap->Prop} (j:Zbcu g h d f e a fun k i=>∀b,Shut a i b->c k b):FnW wP Zmh ⟨[(vI vU g),(vI vU h),(vS d f e)]⟩ a c:=Zc Tryz.func66 ⟨[],[],[],[]⟩ (by kernel_rfl) (by kernel_rfl) j
def Zbkf (c:Int) (a:Heap) (b:Value->Heap->Prop):Prop:=
 IfB (decide (c≥1))
 (b (vB (decide (c <= 65535))) a)
 (b (vB false) a)
theorem Zcdx (d:Int) {a:Heap} {c:Value->Heap->Prop} (f:Zbkf d a fun g e=>∀b,Shut a e b->c g b):FnW wP Zjk ⟨[(vI wI d)]⟩ a c:=Zc Tryz.func72 ⟨[],[],[],[]⟩ (by kernel_rfl) (by kernel_rfl) f
def Zblt (h g i f:Int) (b:Heap) (e:Value->Heap->Prop):Prop:=
 NewW b (Obj.cells ⟨[(vI wI 0),(vI wI g),(vI wI i),(vI vU f),(vP none),(vP none),(vB false),(vB false),(vB false),(vB false),(vI wI h),(vI wI (-1)),(vS none 0 0)]⟩ Zem) fun a c=>
 FnW wP Zlr ⟨[(vP (some ⟨a,0,none⟩)),(vI wI 536)]⟩ c fun j d=>
 j=vT ⟨[]⟩∧
 e (vP (some ⟨a,0,none⟩)) d
theorem Zcfm (f e g d:Int) {a:Heap} {c:Value->Heap->Prop} (i:Zblt f e g d a fun j h=>∀b,Shut a h b->c j b):FnW wP Zoz ⟨[(vI wI f),(vI wI e),(vI wI g),(vI vU d)]⟩ a c:=Zc Tryz.func73 ⟨[],[],[],[]⟩ (by kernel_rfl) (by kernel_rfl) i
def Ztf (b:Nat) (i:Int) (a:Heap) (h:Value->Heap->Prop):Prop:=
 ∃c,a.cell ⟨b,3,none⟩=some (vI vU c)∧
 FnW wP Zif ⟨[(vP (some ⟨b,0,none⟩)),(vI vU c),(vI wI i),(vS none 0 0)]⟩ a fun j f=>
 ∃d,j=vP d∧
 NilP d fun e=>
 Za f ⟨e.block,e.off+7,none⟩ (vI wI 1460) fun g=>
 h (vT ⟨[]⟩) g
def Zte (c:Nat) (d:Int) (a:Heap) (b:Value->Heap->Prop):Prop:=
 Ztf c (Zea wI d 2) a b
def Zbon (b:Nat) (a:Heap) (c:Value->Heap->Prop):Prop:=
 ∃d,a.cell ⟨b,0,none⟩=some (vI wI d)∧
 IfB (d==2)
 (Zte b (Zea wI 0 16) a c)
 (IfB (d==1)
 (Zte b 0 a c)
 (Ztf b 0 a c))
theorem Zcim (d:Nat) {a:Heap} {c:Value->Heap->Prop} (f:Zbon d a fun g e=>∀b,Shut a e b->c g b):FnW wP Zly ⟨[(vP (some ⟨d,0,none⟩))]⟩ a c:=Zc Tryz.func74 ⟨[],[],[],[]⟩ (by kernel_rfl) (by kernel_rfl) f
def Zkw (b:Nat) (a:Heap) (g:Value->Heap->Prop):Prop:=
 ∃c e d,a.cell ⟨b,12,none⟩=some (vS c e d)∧
 Za a ⟨b,12,none⟩ (vS none 0 0) fun f=>
 g (vS c e d) f
def Zsv (a:Nat) (n:Bool) (c:Heap) (d:Value->Heap->Prop):Prop:=
 IfB n
 (Za c ⟨a,11,none⟩ (vI wI (-1)) fun k=>
 Zkw a k d)
 (∃g,c.cell ⟨a,11,none⟩=some (vI wI g)∧
 IfB (g==(-1))
 (∃e:List Nat,(∀b∈e,∃m,c b=some m)∧
 a∈e∧∃h,c.cell ⟨a,10,none⟩=some (vI wI h)∧
 ∃i,c.cell ⟨a,4,none⟩=some (vP i)∧
 FnW wP Zwx ⟨[(vP i)]⟩ c fun o f=>
 ∃j,o=vI wI j∧
 Zb e c f∧Za f ⟨a,11,none⟩ (vI wI (vW wI (h+j))) fun l=>
 Zkw a l d)
 (Zkw a c d))
def Zbnz (a:Nat) (b:Heap) (c:Value->Heap->Prop):Prop:=
 ∃f,b.cell ⟨a,0,none⟩=some (vI wI f)∧
 IfB (f==9)
 (Zkw a b c)
 (∃d,b.cell ⟨a,0,none⟩=some (vI wI d)∧
 IfB (d==0)
 (Zsv a true b c)
 (FnW wP Zxq ⟨[(vP (some ⟨a,0,none⟩))]⟩ b fun h g=>
 ∃e,h=vB e∧
 Zsv a (!e) g c))
theorem Zcib (d:Nat) {a:Heap} {c:Value->Heap->Prop} (f:Zbnz d a fun g e=>∀b,Shut a e b->c g b):FnW wP Zjr ⟨[(vP (some ⟨d,0,none⟩))]⟩ a c:=Zc Tryz.func75 ⟨[(5,[0,1,2,3,4,5,6,7,8,9,10,11,12,13],[34])],[],[],[]⟩ (by kernel_rfl) (by kernel_rfl) f
def Zbin (c d:Int) (a:Heap) (b:Value->Heap->Prop):Prop:=
 b (vI vU (vW vU (c+(vW vU d)))) a
theorem Zcau (d e:Int) {a:Heap} {c:Value->Heap->Prop} (g:Zbin d e a fun h f=>∀b,Shut a f b->c h b):FnW wP Zdl ⟨[(vI vU d),(vI wI e)]⟩ a c:=Zc Tryz.func76 ⟨[],[],[],[]⟩ (by kernel_rfl) (by kernel_rfl) g
def Zbcv (c7 d9 c8 c9 d0 d1 d2 d3 d4 d5:Int) (d6:Option Addr) (d8 d7:Nat) (c2:Heap) (v:Value->Heap->Prop):Prop:=
 NewW c2 (Obj.cells ⟨[(vI wI c8),(vI wI c9),(vI vU d0),(vI vU d1),(vI wI d2),(vI wI d3),(vI wI d4),(vI wI d5),(vS d6 d8 d7)]⟩ Zm) fun a h=>
 ∃G,h.cell ⟨a,0,none⟩=some (vI wI G)∧∃H,h.cell ⟨a,1,none⟩=some (vI wI H)∧∃I,h.cell ⟨a,2,none⟩=some (vI vU I)∧∃J,h.cell ⟨a,3,none⟩=some (vI vU J)∧∃K,h.cell ⟨a,4,none⟩=some (vI wI K)∧∃L,h.cell ⟨a,5,none⟩=some (vI wI L)∧∃M,h.cell ⟨a,6,none⟩=some (vI wI M)∧∃N,h.cell ⟨a,7,none⟩=some (vI wI N)∧∃O Q P,h.cell ⟨a,8,none⟩=some (vS O Q P)∧FnW wP Zwm ⟨[(vA ⟨[(vI wI G),(vI wI H),(vI vU I),(vI vU J),(vI wI K),(vI wI L),(vI wI M),(vI wI N),(vS O Q P)]⟩)]⟩ h fun e0 e=>
 ∃R,e0=vB R∧
 IfB (!R)
 (v (vT ⟨[(vS none 0 0),(vI wI 2)]⟩) e)
 (∃e1 S e2,e.cell ⟨a,8,none⟩=some (vS e1 S e2)∧
 IfB (decide (((S:Int):Int)>65495))
 (v (vT ⟨[(vS none 0 0),(vI wI 3)]⟩) e)
 (∃T,e.cell ⟨a,0,none⟩=some (vI wI T)∧∃U,e.cell ⟨a,1,none⟩=some (vI wI U)∧∃V,e.cell ⟨a,2,none⟩=some (vI vU V)∧∃W,e.cell ⟨a,3,none⟩=some (vI vU W)∧∃X,e.cell ⟨a,4,none⟩=some (vI wI X)∧∃Y,e.cell ⟨a,5,none⟩=some (vI wI Y)∧∃Z,e.cell ⟨a,6,none⟩=some (vI wI Z)∧∃a0,e.cell ⟨a,7,none⟩=some (vI wI a0)∧∃a1 a3 a2,e.cell ⟨a,8,none⟩=some (vS a1 a3 a2)∧FnW wP Zop ⟨[(vA ⟨[(vI wI T),(vI wI U),(vI vU V),(vI vU W),(vI wI X),(vI wI Y),(vI wI Z),(vI wI a0),(vS a1 a3 a2)]⟩)]⟩ e fun e3 A=>
 ∃a4 o a5,e3=vS a4 o a5∧
 ∃e4 a6 e5,A.cell ⟨a,8,none⟩=some (vS e4 a6 e5)∧
 Zcw wP Zd (vI wI 20) (vI wI (vW wI ((vW wI (20+(o:Int)))+(a6:Int)))) A fun e6 B=>
 ∃c d f,e6=vS c d f∧
 ∃a7,B.cell ⟨a,0,none⟩=some (vI wI a7)∧
 FnW wP Zct ⟨[(vS c d f),(vI wI a7)]⟩ B fun e7 C=>
 e7=vT ⟨[]⟩∧
 InC 2 d fun p=>
 ∃a8,C.cell ⟨a,1,none⟩=some (vI wI a8)∧
 FnW wP Zct ⟨[(vS (if f=p then c else vM (fun g=>Addr.add g (p*1)) c) (d - p) (f - p)),(vI wI a8)]⟩ C fun e8 D=>
 e8=vT ⟨[]⟩∧
 InC 4 d fun q=>
 ∃a9,D.cell ⟨a,2,none⟩=some (vI vU a9)∧
 FnW wP Zid ⟨[(vS (if f=q then c else vM (fun g=>Addr.add g (q*1)) c) (d - q) (f - q)),(vI vU a9)]⟩ D fun e9 E=>
 e9=vT ⟨[]⟩∧
 InC 8 d fun r=>
 ∃b0,E.cell ⟨a,3,none⟩=some (vI vU b0)∧
 FnW wP Zid ⟨[(vS (if f=r then c else vM (fun g=>Addr.add g (r*1)) c) (d - r) (f - r)),(vI vU b0)]⟩ E fun f0 n=>
 f0=vT ⟨[]⟩∧
 ∃i:List Nat,(∀b∈i,∃w,n b=some w)∧
 (4:Int)≠0∧
 (0:Int) <= 4∧
 a∈i∧∃b1,n.cell ⟨a,4,none⟩=some (vI wI b1)∧
 NilP c fun f3=>
 InB 12 d fun f1=>
 elemAt f3 f1 1 fun f2=>
 Za n f2 (vI wU (vW wU (vW wI ((vW wI (Int.tdiv (vW wI (20+(o:Int))) 4))*2^(min (4:Int).toNat (wB wI)))))) fun F=>
 Zb i n F∧NilP c fun f6=>
 InB 13 d fun f4=>
 elemAt f6 f4 1 fun f5=>
 Za F f5 (vI wU (vW wU b1)) fun x=>
 InC 14 d fun s=>
 ∃b2,x.cell ⟨a,5,none⟩=some (vI wI b2)∧
 FnW wP Zct ⟨[(vS (if f=s then c else vM (fun g=>Addr.add g (s*1)) c) (d - s) (f - s)),(vI wI b2)]⟩ x fun f7 y=>
 f7=vT ⟨[]⟩∧
 InC 18 d fun t=>
 ∃b3,y.cell ⟨a,6,none⟩=some (vI wI b3)∧
 FnW wP Zct ⟨[(vS (if f=t then c else vM (fun g=>Addr.add g (t*1)) c) (d - t) (f - t)),(vI wI b3)]⟩ y fun f8 m=>
 f8=vT ⟨[]⟩∧
 ∃i:List Nat,(∀b∈i,∃w,m b=some w)∧
 a∈i∧∃b7 b9 b8,m.cell ⟨a,8,none⟩=some (vS b7 b9 b8)∧
 AppW wP #[Zd,Zd] Zd [(vS c d f),(vS a4 o a5)] m fun f9 z=>
 ∃b4 b6 b5,f9=vS b4 b6 b5∧
 Zb i m z∧AppW wP #[Zd,Zd] Zd [(vS b4 b6 b5),(vS b7 b9 b8)] z fun g0 c3=>
 ∃j l k,g0=vS j l k∧
 InC 16 l fun u=>
 FnW wP Zmh ⟨[(vI vU c7),(vI vU d9),(vS j l k)]⟩ c3 fun g1 c4=>
 ∃c0,g1=vI vU c0∧
 FnW wP Zpz ⟨[(vI vU c0)]⟩ c4 fun g2 c5=>
 ∃c1,g2=vI .u16 c1∧
 FnW wP Zct ⟨[(vS (if k=u then j else vM (fun g=>Addr.add g (u*1)) j) (l - u) (k - u)),(vI wI (vW wI c1))]⟩ c5 fun g3 c6=>
 g3=vT ⟨[]⟩∧
 v (vT ⟨[(vS j l k),(vI wI 0)]⟩) c6))
theorem Zbru (d p e f g h i j k l:Int) (m:Option Addr) (o n:Nat) {a:Heap} {c:Value->Heap->Prop} (r:Zbcv d p e f g h i j k l m o n a fun s q=>∀b,Shut a q b->c s b):FnW wP Zmi ⟨[(vI vU d),(vI vU p),(vA ⟨[(vI wI e),(vI wI f),(vI vU g),(vI vU h),(vI wI i),(vI wI j),(vI wI k),(vI wI l),(vS m o n)]⟩)]⟩ a c:=Zc Tryz.func77 ⟨[(11,[0,1,2,3,4,5,6,7,8,9,10,11,12,13,14],[57]),(14,[0,1,3,4,2,5,6],[75])],[],[],[]⟩ (by kernel_rfl) (by kernel_rfl) r
def Zbmq (c:Nat) (g:Heap) (b:Value->Heap->Prop):Prop:=
 FnW wP Zlp ⟨[(vP (some ⟨c,0,none⟩))]⟩ g fun j a=>
 ∃e,j=vB e∧
 IfB (!e)
 (b (vI wI 0) a)
 (∃f,a.cell ⟨c,5,none⟩=some (vP f)∧
 FnW wP Zjq ⟨[(vP f)]⟩ a fun i h=>
 ∃d,i=vI wI d∧
 b (vI wI d) h)
theorem Zcgr (d:Nat) {a:Heap} {c:Value->Heap->Prop} (f:Zbmq d a fun g e=>∀b,Shut a e b->c g b):FnW wP Zwu ⟨[(vP (some ⟨d,0,none⟩))]⟩ a c:=Zc Tryz.func84 ⟨[],[],[],[]⟩ (by kernel_rfl) (by kernel_rfl) f
def Zbmr (c:Nat) (g:Int) (f:Heap) (b:Value->Heap->Prop):Prop:=
 FnW wP Zlp ⟨[(vP (some ⟨c,0,none⟩))]⟩ f fun h a=>
 ∃e,h=vB e∧
 IfB (!e)
 (b (vI wI 1) a)
 (∃d,a.cell ⟨c,10,none⟩=some (vI wI d)∧
 IfB (decide (g<d))
 (b (vI wI 2) a)
 (b (vI wI 0) a))
theorem Zcgs (d:Nat) (e:Int) {a:Heap} {c:Value->Heap->Prop} (g:Zbmr d e a fun h f=>∀b,Shut a f b->c h b):FnW wP Zwv ⟨[(vP (some ⟨d,0,none⟩)),(vI wI e)]⟩ a c:=Zc Tryz.func85 ⟨[],[],[],[]⟩ (by kernel_rfl) (by kernel_rfl) g
def Zblu (r s t u v w x y:Int) (z:Option Addr) (B A:Nat) (o:Heap) (q:Value->Heap->Prop):Prop:=
 NewW o (Obj.cells ⟨[(vI wI r),(vI wI s),(vI vU t),(vI vU u),(vI wI v),(vI wI w),(vI wI x),(vI wI y),(vS z B A)]⟩ Zm) fun b a=>
 ∃c,a.cell ⟨b,0,none⟩=some (vI wI c)∧∃d,a.cell ⟨b,1,none⟩=some (vI wI d)∧∃e,a.cell ⟨b,2,none⟩=some (vI vU e)∧∃f,a.cell ⟨b,3,none⟩=some (vI vU f)∧∃g,a.cell ⟨b,4,none⟩=some (vI wI g)∧∃h,a.cell ⟨b,5,none⟩=some (vI wI h)∧∃i,a.cell ⟨b,6,none⟩=some (vI wI i)∧∃j,a.cell ⟨b,7,none⟩=some (vI wI j)∧∃k m l,a.cell ⟨b,8,none⟩=some (vS k m l)∧FnW wP Zmi ⟨[(vI vU 0),(vI vU 0),(vA ⟨[(vI wI c),(vI wI d),(vI vU e),(vI vU f),(vI wI g),(vI wI h),(vI wI i),(vI wI j),(vS k m l)]⟩)]⟩ a fun F p=>
 ∃C E D,∃n:Int,F=(vT ⟨[(vS C E D),(vI wI n)]⟩)∧
 q (vB (n==0)) p
theorem Zcfn (d e f g h i j k:Int) (l:Option Addr) (n m:Nat) {a:Heap} {c:Value->Heap->Prop} (p:Zblu d e f g h i j k l n m a fun q o=>∀b,Shut a o b->c q b):FnW wP Zpa ⟨[(vA ⟨[(vI wI d),(vI wI e),(vI vU f),(vI vU g),(vI wI h),(vI wI i),(vI wI j),(vI wI k),(vS l n m)]⟩)]⟩ a c:=Zc Tryz.func86 ⟨[],[],[],[]⟩ (by kernel_rfl) (by kernel_rfl) p
def Zbch (a:Heap) (b:Value->Heap->Prop):Prop:=
 b (vI wI 0) a
def Ztu (g a:Nat) (e7:Bool) (b:Heap) (h:Value->Heap->Prop):Prop:=
 IfB e7
 (∃k,b.cell ⟨a,0,none⟩=some (vI wI k)∧∃l,b.cell ⟨a,1,none⟩=some (vI wI l)∧∃m,b.cell ⟨a,2,none⟩=some (vI vU m)∧∃n,b.cell ⟨a,3,none⟩=some (vI vU n)∧∃o,b.cell ⟨a,4,none⟩=some (vI wI o)∧∃p,b.cell ⟨a,5,none⟩=some (vI wI p)∧∃q,b.cell ⟨a,6,none⟩=some (vI wI q)∧∃r,b.cell ⟨a,7,none⟩=some (vI wI r)∧∃s u t,b.cell ⟨a,8,none⟩=some (vS s u t)∧FnW wP Zpc ⟨[(vP (some ⟨g,0,none⟩)),(vA ⟨[(vI wI k),(vI wI l),(vI vU m),(vI vU n),(vI wI o),(vI wI p),(vI wI q),(vI wI r),(vS s u t)]⟩)]⟩ b fun e8 e5=>
 e8=vT ⟨[]⟩∧
 h (vI wI 0) e5)
 (∃v,b.cell ⟨a,0,none⟩=some (vI wI v)∧∃w,b.cell ⟨a,1,none⟩=some (vI wI w)∧∃x,b.cell ⟨a,2,none⟩=some (vI vU x)∧∃y,b.cell ⟨a,3,none⟩=some (vI vU y)∧∃z,b.cell ⟨a,4,none⟩=some (vI wI z)∧∃A,b.cell ⟨a,5,none⟩=some (vI wI A)∧∃B,b.cell ⟨a,6,none⟩=some (vI wI B)∧∃C,b.cell ⟨a,7,none⟩=some (vI wI C)∧∃D F E,b.cell ⟨a,8,none⟩=some (vS D F E)∧FnW wP Zcn ⟨[(vA ⟨[(vI wI v),(vI wI w),(vI vU x),(vI vU y),(vI wI z),(vI wI A),(vI wI B),(vI wI C),(vS D F E)]⟩),(vI wI 4)]⟩ b fun e9 c=>
 ∃G,e9=vB G∧
 IfB G
 (∃H,c.cell ⟨a,0,none⟩=some (vI wI H)∧∃I,c.cell ⟨a,1,none⟩=some (vI wI I)∧∃J,c.cell ⟨a,2,none⟩=some (vI vU J)∧∃K,c.cell ⟨a,3,none⟩=some (vI vU K)∧∃L,c.cell ⟨a,4,none⟩=some (vI wI L)∧∃M,c.cell ⟨a,5,none⟩=some (vI wI M)∧∃N,c.cell ⟨a,6,none⟩=some (vI wI N)∧∃O,c.cell ⟨a,7,none⟩=some (vI wI O)∧∃P R Q,c.cell ⟨a,8,none⟩=some (vS P R Q)∧FnW wP Zcn ⟨[(vA ⟨[(vI wI H),(vI wI I),(vI vU J),(vI vU K),(vI wI L),(vI wI M),(vI wI N),(vI wI O),(vS P R Q)]⟩),(vI wI 16)]⟩ c fun f0 j=>
 ∃S,f0=vB S∧
 IfB (!S)
 (h (vI wI 0) j)
 (FnW wP Zpd ⟨[(vP (some ⟨g,0,none⟩))]⟩ j fun f1 e6=>
 ∃T,f1=vI wI T∧
 h (vI wI T) e6))
 (∃U,c.cell ⟨a,0,none⟩=some (vI wI U)∧∃V,c.cell ⟨a,1,none⟩=some (vI wI V)∧∃W,c.cell ⟨a,2,none⟩=some (vI vU W)∧∃X,c.cell ⟨a,3,none⟩=some (vI vU X)∧∃Y,c.cell ⟨a,4,none⟩=some (vI wI Y)∧∃Z,c.cell ⟨a,5,none⟩=some (vI wI Z)∧∃a0,c.cell ⟨a,6,none⟩=some (vI wI a0)∧∃a1,c.cell ⟨a,7,none⟩=some (vI wI a1)∧∃a2 a4 a3,c.cell ⟨a,8,none⟩=some (vS a2 a4 a3)∧FnW wP Zcn ⟨[(vA ⟨[(vI wI U),(vI wI V),(vI vU W),(vI vU X),(vI wI Y),(vI wI Z),(vI wI a0),(vI wI a1),(vS a2 a4 a3)]⟩),(vI wI 2)]⟩ c fun f2 e=>
 ∃a5,f2=vB a5∧
 IfB (!a5)
 (h (vI wI 0) e)
 (∃a6,e.cell ⟨a,0,none⟩=some (vI wI a6)∧∃a7,e.cell ⟨a,1,none⟩=some (vI wI a7)∧∃a8,e.cell ⟨a,2,none⟩=some (vI vU a8)∧∃a9,e.cell ⟨a,3,none⟩=some (vI vU a9)∧∃b0,e.cell ⟨a,4,none⟩=some (vI wI b0)∧∃b1,e.cell ⟨a,5,none⟩=some (vI wI b1)∧∃b2,e.cell ⟨a,6,none⟩=some (vI wI b2)∧∃b3,e.cell ⟨a,7,none⟩=some (vI wI b3)∧∃b4 b6 b5,e.cell ⟨a,8,none⟩=some (vS b4 b6 b5)∧FnW wP Zmk ⟨[(vP (some ⟨g,0,none⟩)),(vA ⟨[(vI wI a6),(vI wI a7),(vI vU a8),(vI vU a9),(vI wI b0),(vI wI b1),(vI wI b2),(vI wI b3),(vS b4 b6 b5)]⟩)]⟩ e fun f3 f=>
 f3=vT ⟨[]⟩∧
 ∃b7,f.cell ⟨a,0,none⟩=some (vI wI b7)∧∃b8,f.cell ⟨a,1,none⟩=some (vI wI b8)∧∃b9,f.cell ⟨a,2,none⟩=some (vI vU b9)∧∃c0,f.cell ⟨a,3,none⟩=some (vI vU c0)∧∃c1,f.cell ⟨a,4,none⟩=some (vI wI c1)∧∃c2,f.cell ⟨a,5,none⟩=some (vI wI c2)∧∃c3,f.cell ⟨a,6,none⟩=some (vI wI c3)∧∃c4,f.cell ⟨a,7,none⟩=some (vI wI c4)∧∃c5 c7 c6,f.cell ⟨a,8,none⟩=some (vS c5 c7 c6)∧FnW wP Zcn ⟨[(vA ⟨[(vI wI b7),(vI wI b8),(vI vU b9),(vI vU c0),(vI wI c1),(vI wI c2),(vI wI c3),(vI wI c4),(vS c5 c7 c6)]⟩),(vI wI 16)]⟩ f fun f4 d=>
 ∃c8,f4=vB c8∧
 IfB (!c8)
 (Za d ⟨g,0,none⟩ (vI wI 2) fun e1=>
 FnW wP Zly ⟨[(vP (some ⟨g,0,none⟩))]⟩ e1 fun f5 e2=>
 f5=vT ⟨[]⟩∧
 h (vI wI 0) e2)
 (∃c9,d.cell ⟨a,0,none⟩=some (vI wI c9)∧∃d0,d.cell ⟨a,1,none⟩=some (vI wI d0)∧∃d1,d.cell ⟨a,2,none⟩=some (vI vU d1)∧∃d2,d.cell ⟨a,3,none⟩=some (vI vU d2)∧∃d3,d.cell ⟨a,4,none⟩=some (vI wI d3)∧∃d4,d.cell ⟨a,5,none⟩=some (vI wI d4)∧∃d5,d.cell ⟨a,6,none⟩=some (vI wI d5)∧∃d6,d.cell ⟨a,7,none⟩=some (vI wI d6)∧∃d7 d9 d8,d.cell ⟨a,8,none⟩=some (vS d7 d9 d8)∧FnW wP Zpe ⟨[(vP (some ⟨g,0,none⟩)),(vA ⟨[(vI wI c9),(vI wI d0),(vI vU d1),(vI vU d2),(vI wI d3),(vI wI d4),(vI wI d5),(vI wI d6),(vS d7 d9 d8)]⟩)]⟩ d fun f6 e3=>
 f6=vT ⟨[]⟩∧
 FnW wP Zpn ⟨[(vP (some ⟨g,0,none⟩))]⟩ e3 fun f7 i=>
 f7=vT ⟨[]⟩∧
 ∃f8 e0 f9,i.cell ⟨g,12,none⟩=some (vS f8 e0 f9)∧
 IfB (((e0:Int):Int)==0)
 (FnW wP Zpb ⟨[(vP (some ⟨g,0,none⟩))]⟩ i fun g0 e4=>
 g0=vT ⟨[]⟩∧
 Zbch e4 h)
 (Zbch i h)))))
def Zbpg (f:Nat) (z A B C D E F G:Int) (H:Option Addr) (J I:Nat) (x:Heap) (h:Value->Heap->Prop):Prop:=
 NewW x (Obj.cells ⟨[(vI wI z),(vI wI A),(vI vU B),(vI vU C),(vI wI D),(vI wI E),(vI wI F),(vI wI G),(vS H J I)]⟩ Zm) fun c a=>
 ∃e:List Nat,(∀b∈e,∃y,a b=some y)∧
 ∃k,a.cell ⟨c,0,none⟩=some (vI wI k)∧∃l,a.cell ⟨c,1,none⟩=some (vI wI l)∧∃m,a.cell ⟨c,2,none⟩=some (vI vU m)∧∃n,a.cell ⟨c,3,none⟩=some (vI vU n)∧∃o,a.cell ⟨c,4,none⟩=some (vI wI o)∧∃p,a.cell ⟨c,5,none⟩=some (vI wI p)∧∃q,a.cell ⟨c,6,none⟩=some (vI wI q)∧∃r,a.cell ⟨c,7,none⟩=some (vI wI r)∧∃s u t,a.cell ⟨c,8,none⟩=some (vS s u t)∧FnW wP Zcn ⟨[(vA ⟨[(vI wI k),(vI wI l),(vI vU m),(vI vU n),(vI wI o),(vI wI p),(vI wI q),(vI wI r),(vS s u t)]⟩),(vI wI 16)]⟩ a fun L d=>
 ∃v,L=vB v∧
 Zb e a d∧IfB v
 (c∈e∧∃w,a.cell ⟨c,3,none⟩=some (vI vU w)∧
 ∃i,d.cell ⟨f,3,none⟩=some (vI vU i)∧
 FnW wP Zdl ⟨[(vI vU i),(vI wI 1)]⟩ d fun K g=>
 ∃j,K=vI vU j∧
 Zb e a g∧Ztu f c (w !=j) g h)
 (Ztu f c false d h)
theorem Zcjb (d:Nat) (e f g h i j k l:Int) (m:Option Addr) (o n:Nat) {a:Heap} {c:Value->Heap->Prop} (q:Zbpg d e f g h i j k l m o n a fun r p=>∀b,Shut a p b->c r b):FnW wP Zxy ⟨[(vP (some ⟨d,0,none⟩)),(vA ⟨[(vI wI e),(vI wI f),(vI vU g),(vI vU h),(vI wI i),(vI wI j),(vI wI k),(vI wI l),(vS m o n)]⟩)]⟩ a c:=Zc Tryz.func87 ⟨[(1,[0,1,2,3,4,5,6,7,8,9,10,11],[9])],[],[],[]⟩ (by kernel_rfl) (by kernel_rfl) q
def Zbcb (a:Heap) (b:Value->Heap->Prop):Prop:=
 b (vI wI 0) a
def Zkx (d:Nat) (b:Heap) (c:Value->Heap->Prop):Prop:=
 FnW wP Zpb ⟨[(vP (some ⟨d,0,none⟩))]⟩ b fun e a=>
 e=vT ⟨[]⟩∧
 Zbcb a c
def Ztb (c:Nat) (d:Bool) (a:Heap) (b:Value->Heap->Prop):Prop:=
 IfB d
 (b (vI wI 0) a)
 (Zkx c a b)
def Zta (d a:Nat) (b:Heap) (e:Value->Heap->Prop):Prop:=
 ∃f,b.cell ⟨d,0,none⟩=some (vI wI f)∧
 IfB (f==0)
 (e (vI wI 0) b)
 (∃g,b.cell ⟨a,0,none⟩=some (vI wI g)∧∃h,b.cell ⟨a,1,none⟩=some (vI wI h)∧∃i,b.cell ⟨a,2,none⟩=some (vI vU i)∧∃j,b.cell ⟨a,3,none⟩=some (vI vU j)∧∃k,b.cell ⟨a,4,none⟩=some (vI wI k)∧∃l,b.cell ⟨a,5,none⟩=some (vI wI l)∧∃m,b.cell ⟨a,6,none⟩=some (vI wI m)∧∃n,b.cell ⟨a,7,none⟩=some (vI wI n)∧∃o q p,b.cell ⟨a,8,none⟩=some (vS o q p)∧FnW wP Zxo ⟨[(vP (some ⟨d,0,none⟩)),(vA ⟨[(vI wI g),(vI wI h),(vI vU i),(vI vU j),(vI wI k),(vI wI l),(vI wI m),(vI wI n),(vS o q p)]⟩)]⟩ b fun G E=>
 G=vT ⟨[]⟩∧
 FnW wP Zpn ⟨[(vP (some ⟨d,0,none⟩))]⟩ E fun H c=>
 H=vT ⟨[]⟩∧
 ∃I r J,c.cell ⟨d,12,none⟩=some (vS I r J)∧
 IfB (decide (((r:Int):Int)>0))
 (Ztb d true c e)
 (∃s,c.cell ⟨a,0,none⟩=some (vI wI s)∧∃t,c.cell ⟨a,1,none⟩=some (vI wI t)∧∃u,c.cell ⟨a,2,none⟩=some (vI vU u)∧∃v,c.cell ⟨a,3,none⟩=some (vI vU v)∧∃w,c.cell ⟨a,4,none⟩=some (vI wI w)∧∃x,c.cell ⟨a,5,none⟩=some (vI wI x)∧∃y,c.cell ⟨a,6,none⟩=some (vI wI y)∧∃z,c.cell ⟨a,7,none⟩=some (vI wI z)∧∃A C B,c.cell ⟨a,8,none⟩=some (vS A C B)∧FnW wP Zjt ⟨[(vA ⟨[(vI wI s),(vI wI t),(vI vU u),(vI vU v),(vI wI w),(vI wI x),(vI wI y),(vI wI z),(vS A C B)]⟩)]⟩ c fun K F=>
 ∃D,K=vI wI D∧
 Ztb d (D==0) F e))
def Zfs (g a:Nat) (c5:Bool) (f:Heap) (h:Value->Heap->Prop):Prop:=
 IfB c5
 (Zkx g f h)
 (∃k,f.cell ⟨a,0,none⟩=some (vI wI k)∧∃l,f.cell ⟨a,1,none⟩=some (vI wI l)∧∃m,f.cell ⟨a,2,none⟩=some (vI vU m)∧∃n,f.cell ⟨a,3,none⟩=some (vI vU n)∧∃o,f.cell ⟨a,4,none⟩=some (vI wI o)∧∃p,f.cell ⟨a,5,none⟩=some (vI wI p)∧∃q,f.cell ⟨a,6,none⟩=some (vI wI q)∧∃r,f.cell ⟨a,7,none⟩=some (vI wI r)∧∃s u t,f.cell ⟨a,8,none⟩=some (vS s u t)∧FnW wP Zcn ⟨[(vA ⟨[(vI wI k),(vI wI l),(vI vU m),(vI vU n),(vI wI o),(vI wI p),(vI wI q),(vI wI r),(vS s u t)]⟩),(vI wI 4)]⟩ f fun c6 e=>
 ∃v,c6=vB v∧
 IfB v
 (FnW wP Zpd ⟨[(vP (some ⟨g,0,none⟩))]⟩ e fun c7 c1=>
 ∃w,c7=vI wI w∧
 h (vI wI w) c1)
 (∃x,e.cell ⟨a,0,none⟩=some (vI wI x)∧∃y,e.cell ⟨a,1,none⟩=some (vI wI y)∧∃z,e.cell ⟨a,2,none⟩=some (vI vU z)∧∃A,e.cell ⟨a,3,none⟩=some (vI vU A)∧∃B,e.cell ⟨a,4,none⟩=some (vI wI B)∧∃C,e.cell ⟨a,5,none⟩=some (vI wI C)∧∃D,e.cell ⟨a,6,none⟩=some (vI wI D)∧∃E,e.cell ⟨a,7,none⟩=some (vI wI E)∧∃F H G,e.cell ⟨a,8,none⟩=some (vS F H G)∧FnW wP Zcn ⟨[(vA ⟨[(vI wI x),(vI wI y),(vI vU z),(vI vU A),(vI wI B),(vI wI C),(vI wI D),(vI wI E),(vS F H G)]⟩),(vI wI 16)]⟩ e fun c8 d=>
 ∃I,c8=vB I∧
 IfB (!I)
 (h (vI wI 0) d)
 (∃J,d.cell ⟨g,0,none⟩=some (vI wI J)∧
 IfB (J !=2)
 (∃K,d.cell ⟨a,0,none⟩=some (vI wI K)∧∃L,d.cell ⟨a,1,none⟩=some (vI wI L)∧∃M,d.cell ⟨a,2,none⟩=some (vI vU M)∧∃N,d.cell ⟨a,3,none⟩=some (vI vU N)∧∃O,d.cell ⟨a,4,none⟩=some (vI wI O)∧∃P,d.cell ⟨a,5,none⟩=some (vI wI P)∧∃Q,d.cell ⟨a,6,none⟩=some (vI wI Q)∧∃R,d.cell ⟨a,7,none⟩=some (vI wI R)∧∃S U T,d.cell ⟨a,8,none⟩=some (vS S U T)∧FnW wP Zwh ⟨[(vP (some ⟨g,0,none⟩)),(vA ⟨[(vI wI K),(vI wI L),(vI vU M),(vI vU N),(vI wI O),(vI wI P),(vI wI Q),(vI wI R),(vS S U T)]⟩)]⟩ d fun c9 j=>
 ∃V,c9=vB V∧
 IfB (!V)
 (Zkx g j h)
 (Zta g a j h))
 (∃i:List Nat,(∀b∈i,∃c4,d b=some c4)∧
 a∈i∧∃W,d.cell ⟨a,3,none⟩=some (vI vU W)∧
 ∃X,d.cell ⟨g,3,none⟩=some (vI vU X)∧
 FnW wP Zdl ⟨[(vI vU X),(vI wI 1)]⟩ d fun d0 c=>
 ∃Y,d0=vI vU Y∧
 Zb i d c∧IfB (W !=Y)
 (∃Z,c.cell ⟨a,0,none⟩=some (vI wI Z)∧∃a0,c.cell ⟨a,1,none⟩=some (vI wI a0)∧∃a1,c.cell ⟨a,2,none⟩=some (vI vU a1)∧∃a2,c.cell ⟨a,3,none⟩=some (vI vU a2)∧∃a3,c.cell ⟨a,4,none⟩=some (vI wI a3)∧∃a4,c.cell ⟨a,5,none⟩=some (vI wI a4)∧∃a5,c.cell ⟨a,6,none⟩=some (vI wI a5)∧∃a6,c.cell ⟨a,7,none⟩=some (vI wI a6)∧∃a7 a9 a8,c.cell ⟨a,8,none⟩=some (vS a7 a9 a8)∧FnW wP Zpc ⟨[(vP (some ⟨g,0,none⟩)),(vA ⟨[(vI wI Z),(vI wI a0),(vI vU a1),(vI vU a2),(vI wI a3),(vI wI a4),(vI wI a5),(vI wI a6),(vS a7 a9 a8)]⟩)]⟩ c fun d1 c2=>
 d1=vT ⟨[]⟩∧
 h (vI wI 0) c2)
 (∃b0,c.cell ⟨a,0,none⟩=some (vI wI b0)∧∃b1,c.cell ⟨a,1,none⟩=some (vI wI b1)∧∃b2,c.cell ⟨a,2,none⟩=some (vI vU b2)∧∃b3,c.cell ⟨a,3,none⟩=some (vI vU b3)∧∃b4,c.cell ⟨a,4,none⟩=some (vI wI b4)∧∃b5,c.cell ⟨a,5,none⟩=some (vI wI b5)∧∃b6,c.cell ⟨a,6,none⟩=some (vI wI b6)∧∃b7,c.cell ⟨a,7,none⟩=some (vI wI b7)∧∃b8 c0 b9,c.cell ⟨a,8,none⟩=some (vS b8 c0 b9)∧FnW wP Zpe ⟨[(vP (some ⟨g,0,none⟩)),(vA ⟨[(vI wI b0),(vI wI b1),(vI vU b2),(vI vU b3),(vI wI b4),(vI wI b5),(vI wI b6),(vI wI b7),(vS b8 c0 b9)]⟩)]⟩ c fun d2 c3=>
 d2=vT ⟨[]⟩∧
 Zta g a c3 h)))))
def Zsz (g a:Nat) (b3 b4:Bool) (d:Heap) (h:Value->Heap->Prop):Prop:=
 IfB b4
 (h (vI wI 0) d)
 (∃f:List Nat,(∀b∈f,∃b2,d b=some b2)∧
 IfB (!b3)
 (Zfs g a true d h)
 (∃m,d.cell ⟨a,0,none⟩=some (vI wI m)∧∃n,d.cell ⟨a,1,none⟩=some (vI wI n)∧∃o,d.cell ⟨a,2,none⟩=some (vI vU o)∧∃p,d.cell ⟨a,3,none⟩=some (vI vU p)∧∃q,d.cell ⟨a,4,none⟩=some (vI wI q)∧∃r,d.cell ⟨a,5,none⟩=some (vI wI r)∧∃s,d.cell ⟨a,6,none⟩=some (vI wI s)∧∃t,d.cell ⟨a,7,none⟩=some (vI wI t)∧∃u w v,d.cell ⟨a,8,none⟩=some (vS u w v)∧FnW wP Zcn ⟨[(vA ⟨[(vI wI m),(vI wI n),(vI vU o),(vI vU p),(vI wI q),(vI wI r),(vI wI s),(vI wI t),(vS u w v)]⟩),(vI wI 2)]⟩ d fun b5 c=>
 ∃x,b5=vB x∧
 Zb f d c∧IfB x
 (∃y,c.cell ⟨a,0,none⟩=some (vI wI y)∧∃z,c.cell ⟨a,1,none⟩=some (vI wI z)∧∃A,c.cell ⟨a,2,none⟩=some (vI vU A)∧∃B,c.cell ⟨a,3,none⟩=some (vI vU B)∧∃C,c.cell ⟨a,4,none⟩=some (vI wI C)∧∃D,c.cell ⟨a,5,none⟩=some (vI wI D)∧∃E,c.cell ⟨a,6,none⟩=some (vI wI E)∧∃F,c.cell ⟨a,7,none⟩=some (vI wI F)∧∃G I H,c.cell ⟨a,8,none⟩=some (vS G I H)∧FnW wP Zcn ⟨[(vA ⟨[(vI wI y),(vI wI z),(vI vU A),(vI vU B),(vI wI C),(vI wI D),(vI wI E),(vI wI F),(vS G I H)]⟩),(vI wI 4)]⟩ c fun b6 e=>
 ∃J,b6=vB J∧
 Zb f d e∧IfB (!J)
 (Zfs g a true e h)
 (∃K,e.cell ⟨a,0,none⟩=some (vI wI K)∧∃M,e.cell ⟨a,1,none⟩=some (vI wI M)∧∃O,e.cell ⟨a,2,none⟩=some (vI vU O)∧∃Q,e.cell ⟨a,3,none⟩=some (vI vU Q)∧∃S,e.cell ⟨a,4,none⟩=some (vI wI S)∧∃U,e.cell ⟨a,5,none⟩=some (vI wI U)∧∃W,e.cell ⟨a,6,none⟩=some (vI wI W)∧∃Y,e.cell ⟨a,7,none⟩=some (vI wI Y)∧∃a0 a4 a2,e.cell ⟨a,8,none⟩=some (vS a0 a4 a2)∧FnW wP Zcn ⟨[(vA ⟨[(vI wI K),(vI wI M),(vI vU O),(vI vU Q),(vI wI S),(vI wI U),(vI wI W),(vI wI Y),(vS a0 a4 a2)]⟩),(vI wI 4)]⟩ e fun b7 i=>
 ∃a6,b7=vB a6∧
 Zb f d i∧IfB a6
 (a∈f∧∃a8,d.cell ⟨a,2,none⟩=some (vI vU a8)∧
 FnW wP Zig ⟨[(vP (some ⟨g,0,none⟩))]⟩ i fun b9 k=>
 ∃b0,b9=vI vU b0∧
 Zb f d k∧Zfs g a (a8 !=b0) k h)
 (Zfs g a false i h)))
 (∃L,c.cell ⟨a,0,none⟩=some (vI wI L)∧∃N,c.cell ⟨a,1,none⟩=some (vI wI N)∧∃P,c.cell ⟨a,2,none⟩=some (vI vU P)∧∃R,c.cell ⟨a,3,none⟩=some (vI vU R)∧∃T,c.cell ⟨a,4,none⟩=some (vI wI T)∧∃V,c.cell ⟨a,5,none⟩=some (vI wI V)∧∃X,c.cell ⟨a,6,none⟩=some (vI wI X)∧∃Z,c.cell ⟨a,7,none⟩=some (vI wI Z)∧∃a1 a5 a3,c.cell ⟨a,8,none⟩=some (vS a1 a5 a3)∧FnW wP Zcn ⟨[(vA ⟨[(vI wI L),(vI wI N),(vI vU P),(vI vU R),(vI wI T),(vI wI V),(vI wI X),(vI wI Z),(vS a1 a5 a3)]⟩),(vI wI 4)]⟩ c fun b8 j=>
 ∃a7,b8=vB a7∧
 Zb f d j∧IfB a7
 (a∈f∧∃a9,d.cell ⟨a,2,none⟩=some (vI vU a9)∧
 FnW wP Zig ⟨[(vP (some ⟨g,0,none⟩))]⟩ j fun c0 l=>
 ∃b1,c0=vI vU b1∧
 Zb f d l∧Zfs g a (a9 !=b1) l h)
 (Zfs g a false j h))))
def Zboc (f:Nat) (Q R S T U V W X:Int) (Y:Option Addr) (a0 Z:Nat) (N:Heap) (k:Value->Heap->Prop):Prop:=
 NewW N (Obj.cells ⟨[(vI wI Q),(vI wI R),(vI vU S),(vI vU T),(vI wI U),(vI wI V),(vI wI W),(vI wI X),(vS Y a0 Z)]⟩ Zm) fun a c=>
 ∃e:List Nat,(∀b∈e,∃P,c b=some P)∧
 f∈e∧∃l,c.cell ⟨f,5,none⟩=some (vP l)∧
 a∈e∧∃n,c.cell ⟨a,2,none⟩=some (vI vU n)∧
 a∈e∧∃o,c.cell ⟨a,0,none⟩=some (vI wI o)∧∃p,c.cell ⟨a,1,none⟩=some (vI wI p)∧∃q,c.cell ⟨a,2,none⟩=some (vI vU q)∧∃r,c.cell ⟨a,3,none⟩=some (vI vU r)∧∃s,c.cell ⟨a,4,none⟩=some (vI wI s)∧∃t,c.cell ⟨a,5,none⟩=some (vI wI t)∧∃u,c.cell ⟨a,6,none⟩=some (vI wI u)∧∃v,c.cell ⟨a,7,none⟩=some (vI wI v)∧∃w y x,c.cell ⟨a,8,none⟩=some (vS w y x)∧FnW wP Zig ⟨[(vP (some ⟨f,0,none⟩))]⟩ c fun a6 h=>
 ∃M,a6=vI vU M∧
 Zb e c h∧FnW wP Zlq ⟨[(vP l)]⟩ h fun a1 i=>
 ∃m,a1=vI wI m∧
 Zb e c i∧FnW wP Zjt ⟨[(vA ⟨[(vI wI o),(vI wI p),(vI vU q),(vI vU r),(vI wI s),(vI wI t),(vI wI u),(vI wI v),(vS w y x)]⟩)]⟩ i fun a2 j=>
 ∃z,a2=vI wI z∧
 Zb e c j∧FnW wP Zye ⟨[(vI vU M),(vI wI m),(vI vU n),(vI wI z)]⟩ j fun a4 d=>
 ∃g,∃a3:Int,a4=(vT ⟨[(vB g),(vI wI a3)]⟩)∧
 Zb e c d∧IfB (!g)
 (∃A,d.cell ⟨a,0,none⟩=some (vI wI A)∧∃B,d.cell ⟨a,1,none⟩=some (vI wI B)∧∃C,d.cell ⟨a,2,none⟩=some (vI vU C)∧∃D,d.cell ⟨a,3,none⟩=some (vI vU D)∧∃E,d.cell ⟨a,4,none⟩=some (vI wI E)∧∃F,d.cell ⟨a,5,none⟩=some (vI wI F)∧∃G,d.cell ⟨a,6,none⟩=some (vI wI G)∧∃H,d.cell ⟨a,7,none⟩=some (vI wI H)∧∃I K J,d.cell ⟨a,8,none⟩=some (vS I K J)∧FnW wP Zcn ⟨[(vA ⟨[(vI wI A),(vI wI B),(vI vU C),(vI vU D),(vI wI E),(vI wI F),(vI wI G),(vI wI H),(vS I K J)]⟩),(vI wI 4)]⟩ d fun a5 O=>
 ∃L,a5=vB L∧
 Zsz f a g L O k)
 (Zsz f a g false d k)
theorem Zcie (d:Nat) (e f g h i j k l:Int) (m:Option Addr) (o n:Nat) {a:Heap} {c:Value->Heap->Prop} (q:Zboc d e f g h i j k l m o n a fun r p=>∀b,Shut a p b->c r b):FnW wP Zxl ⟨[(vP (some ⟨d,0,none⟩)),(vA ⟨[(vI wI e),(vI wI f),(vI vU g),(vI vU h),(vI wI i),(vI wI j),(vI wI k),(vI wI l),(vS m o n)]⟩)]⟩ a c:=Zc Tryz.func88 ⟨[(1,[0,2,3,4,5,7,8,9,1,6,10,11,12,13,14,15,16],[13,16,17]),(3,[0,1,2,3,4,5,6,7,8,9,10,11,12,13,14,15,16,17,18,19,20,21],[44]),(9,[0,1,2,3,4,5,6,7],[67])],[],[],[]⟩ (by kernel_rfl) (by kernel_rfl) q
def Zul (a d:Nat) (b:Heap) (I:Value->Heap->Prop):Prop:=
 ∃p,b.cell ⟨d,0,none⟩=some (vI wI p)∧∃q,b.cell ⟨d,1,none⟩=some (vI wI q)∧∃r,b.cell ⟨d,2,none⟩=some (vI vU r)∧∃s,b.cell ⟨d,3,none⟩=some (vI vU s)∧∃t,b.cell ⟨d,4,none⟩=some (vI wI t)∧∃u,b.cell ⟨d,5,none⟩=some (vI wI u)∧∃v,b.cell ⟨d,6,none⟩=some (vI wI v)∧∃w,b.cell ⟨d,7,none⟩=some (vI wI w)∧∃x z y,b.cell ⟨d,8,none⟩=some (vS x z y)∧Za b ⟨a,0,none⟩ (vI wI p) fun A=>
 Za A ⟨a,1,none⟩ (vI wI q) fun B=>
 Za B ⟨a,2,none⟩ (vI vU r) fun C=>
 Za C ⟨a,3,none⟩ (vI vU s) fun D=>
 Za D ⟨a,4,none⟩ (vI wI t) fun E=>
 Za E ⟨a,5,none⟩ (vI wI u) fun F=>
 Za F ⟨a,6,none⟩ (vI wI v) fun G=>
 Za G ⟨a,7,none⟩ (vI wI w) fun H=>
 Za H ⟨a,8,none⟩ (vS x z y) fun c=>
 ∃e,c.cell ⟨a,0,none⟩=some (vI wI e)∧∃f,c.cell ⟨a,1,none⟩=some (vI wI f)∧∃g,c.cell ⟨a,2,none⟩=some (vI vU g)∧∃h,c.cell ⟨a,3,none⟩=some (vI vU h)∧∃i,c.cell ⟨a,4,none⟩=some (vI wI i)∧∃j,c.cell ⟨a,5,none⟩=some (vI wI j)∧∃k,c.cell ⟨a,6,none⟩=some (vI wI k)∧∃l,c.cell ⟨a,7,none⟩=some (vI wI l)∧∃m o n,c.cell ⟨a,8,none⟩=some (vS m o n)∧I (vT ⟨[(vA ⟨[(vI wI e),(vI wI f),(vI vU g),(vI vU h),(vI wI i),(vI wI j),(vI wI k),(vI wI l),(vS m o n)]⟩),(vB true)]⟩) c
def Zbqq (d7 d8 d9 e0 e1 e2 e3 e4:Int) (e5:Option Addr) (e7 e6:Nat) (b4:Heap) (k:Value->Heap->Prop):Prop:=
 NewW b4 (Obj.cells ⟨[(vI wI d7),(vI wI d8),(vI vU d9),(vI vU e0),(vI wI e1),(vI wI e2),(vI wI e3),(vI wI e4),(vS e5 e7 e6)]⟩ Zm) fun a b5=>
 NewW b5 (Obj.cells ⟨[(vI wI 0),(vI wI 0),(vI vU 0),(vI vU 0),(vI wI 0),(vI wI 0),(vI wI 0),(vI wI 0),(vS none 0 0)]⟩ Zm) fun c j=>
 ∃b2,j.cell ⟨a,1,none⟩=some (vI wI b2)∧
 ∃b3,j.cell ⟨a,0,none⟩=some (vI wI b3)∧
 NewW j (Obj.cells ⟨[(vI wI 0),(vI wI 0),(vI vU 0),(vI vU 0),(vI wI 0),(vI wI 0),(vI wI 0),(vI wI 0),(vS none 0 0)]⟩ Zm) fun d c7=>
 Za c7 ⟨d,0,none⟩ (vI wI b2) fun d0=>
 Za d0 ⟨d,1,none⟩ (vI wI b3) fun d1=>
 Za d1 ⟨d,2,none⟩ (vI vU 0) fun d2=>
 Za d2 ⟨d,3,none⟩ (vI vU 0) fun d3=>
 Za d3 ⟨d,4,none⟩ (vI wI 4) fun d4=>
 Za d4 ⟨d,5,none⟩ (vI wI 0) fun d5=>
 Za d5 ⟨d,6,none⟩ (vI wI 0) fun b6=>
 Za b6 ⟨d,7,none⟩ (vI wI 0) fun b7=>
 Za b7 ⟨d,8,none⟩ (vS none 0 0) fun g=>
 ∃N,g.cell ⟨a,0,none⟩=some (vI wI N)∧∃O,g.cell ⟨a,1,none⟩=some (vI wI O)∧∃P,g.cell ⟨a,2,none⟩=some (vI vU P)∧∃Q,g.cell ⟨a,3,none⟩=some (vI vU Q)∧∃R,g.cell ⟨a,4,none⟩=some (vI wI R)∧∃S,g.cell ⟨a,5,none⟩=some (vI wI S)∧∃T,g.cell ⟨a,6,none⟩=some (vI wI T)∧∃U,g.cell ⟨a,7,none⟩=some (vI wI U)∧∃V X W,g.cell ⟨a,8,none⟩=some (vS V X W)∧FnW wP Zjl ⟨[(vA ⟨[(vI wI N),(vI wI O),(vI vU P),(vI vU Q),(vI wI R),(vI wI S),(vI wI T),(vI wI U),(vS V X W)]⟩),(vI wI 2)]⟩ g fun f0 f=>
 ∃Y,f0=vB Y∧
 IfB Y
 (Za f ⟨c,0,none⟩ (vI wI 0) fun b8=>
 Za b8 ⟨c,1,none⟩ (vI wI 0) fun b9=>
 Za b9 ⟨c,2,none⟩ (vI vU 0) fun c0=>
 Za c0 ⟨c,3,none⟩ (vI vU 0) fun c1=>
 Za c1 ⟨c,4,none⟩ (vI wI 0) fun c2=>
 Za c2 ⟨c,5,none⟩ (vI wI 0) fun c3=>
 Za c3 ⟨c,6,none⟩ (vI wI 0) fun c4=>
 Za c4 ⟨c,7,none⟩ (vI wI 0) fun c5=>
 Za c5 ⟨c,8,none⟩ (vS none 0 0) fun h=>
 ∃n,h.cell ⟨c,0,none⟩=some (vI wI n)∧∃o,h.cell ⟨c,1,none⟩=some (vI wI o)∧∃p,h.cell ⟨c,2,none⟩=some (vI vU p)∧∃q,h.cell ⟨c,3,none⟩=some (vI vU q)∧∃r,h.cell ⟨c,4,none⟩=some (vI wI r)∧∃s,h.cell ⟨c,5,none⟩=some (vI wI s)∧∃t,h.cell ⟨c,6,none⟩=some (vI wI t)∧∃u,h.cell ⟨c,7,none⟩=some (vI wI u)∧∃v x w,h.cell ⟨c,8,none⟩=some (vS v x w)∧k (vT ⟨[(vA ⟨[(vI wI n),(vI wI o),(vI vU p),(vI vU q),(vI wI r),(vI wI s),(vI wI t),(vI wI u),(vS v x w)]⟩),(vB false)]⟩) h)
 (∃Z,f.cell ⟨a,0,none⟩=some (vI wI Z)∧∃a0,f.cell ⟨a,1,none⟩=some (vI wI a0)∧∃a1,f.cell ⟨a,2,none⟩=some (vI vU a1)∧∃a2,f.cell ⟨a,3,none⟩=some (vI vU a2)∧∃a3,f.cell ⟨a,4,none⟩=some (vI wI a3)∧∃a4,f.cell ⟨a,5,none⟩=some (vI wI a4)∧∃a5,f.cell ⟨a,6,none⟩=some (vI wI a5)∧∃a6,f.cell ⟨a,7,none⟩=some (vI wI a6)∧∃a7 a9 a8,f.cell ⟨a,8,none⟩=some (vS a7 a9 a8)∧FnW wP Zjl ⟨[(vA ⟨[(vI wI Z),(vI wI a0),(vI vU a1),(vI vU a2),(vI wI a3),(vI wI a4),(vI wI a5),(vI wI a6),(vS a7 a9 a8)]⟩),(vI wI 4)]⟩ f fun f1 i=>
 ∃b0,f1=vB b0∧
 IfB b0
 (∃b1,i.cell ⟨a,3,none⟩=some (vI vU b1)∧
 Za i ⟨d,2,none⟩ (vI vU b1) fun c6=>
 Zul c d c6 k)
 (∃y,i.cell ⟨d,4,none⟩=some (vI wI y)∧
 Za i ⟨d,4,none⟩ (vI wI (Zea wI y 16)) fun e=>
 ∃l:List Nat,(∀b∈l,∃d6,e b=some d6)∧
 a∈l∧∃z,e.cell ⟨a,2,none⟩=some (vI vU z)∧
 ∃A,e.cell ⟨a,0,none⟩=some (vI wI A)∧∃B,e.cell ⟨a,1,none⟩=some (vI wI B)∧∃C,e.cell ⟨a,2,none⟩=some (vI vU C)∧∃D,e.cell ⟨a,3,none⟩=some (vI vU D)∧∃E,e.cell ⟨a,4,none⟩=some (vI wI E)∧∃F,e.cell ⟨a,5,none⟩=some (vI wI F)∧∃G,e.cell ⟨a,6,none⟩=some (vI wI G)∧∃H,e.cell ⟨a,7,none⟩=some (vI wI H)∧∃I K J,e.cell ⟨a,8,none⟩=some (vS I K J)∧FnW wP Zjt ⟨[(vA ⟨[(vI wI A),(vI wI B),(vI vU C),(vI vU D),(vI wI E),(vI wI F),(vI wI G),(vI wI H),(vS I K J)]⟩)]⟩ e fun e8 m=>
 ∃L,e8=vI wI L∧
 Zb l e m∧FnW wP Zdl ⟨[(vI vU z),(vI wI L)]⟩ m fun e9 c8=>
 ∃M,e9=vI vU M∧
 Za c8 ⟨d,3,none⟩ (vI vU M) fun c9=>
 Zul c d c9 k))
theorem Zcke (d e f g h i j k:Int) (l:Option Addr) (n m:Nat) {a:Heap} {c:Value->Heap->Prop} (p:Zbqq d e f g h i j k l n m a fun q o=>∀b,Shut a o b->c q b):FnW wP Zpx ⟨[(vA ⟨[(vI wI d),(vI wI e),(vI vU f),(vI vU g),(vI wI h),(vI wI i),(vI wI j),(vI wI k),(vS l n m)]⟩)]⟩ a c:=Zc Tryz.func90 ⟨[(3,[0,1,2,3,4,5,6],[15])],[],[],[]⟩ (by kernel_rfl) (by kernel_rfl) p
def Zky (A z:Int) (a:Nat) (B:Bool) (d:Heap) (e:Value->Heap->Prop):Prop:=
 IfB B
 (e (vT ⟨[(vP none),(vS none 0 0),(vI wI 2)]⟩) d)
 (∃f,d.cell ⟨a,1,none⟩=some (vI wI f)∧
 ∃g,d.cell ⟨a,0,none⟩=some (vI wI g)∧
 FnW wP Zoz ⟨[(vI wI A),(vI wI f),(vI wI g),(vI vU z)]⟩ d fun C w=>
 ∃c,C=vP c∧
 NilP c fun D=>
 Za w D (vI wI 2) fun b=>
 ∃h,b.cell ⟨a,0,none⟩=some (vI wI h)∧∃i,b.cell ⟨a,1,none⟩=some (vI wI i)∧∃j,b.cell ⟨a,2,none⟩=some (vI vU j)∧∃k,b.cell ⟨a,3,none⟩=some (vI vU k)∧∃l,b.cell ⟨a,4,none⟩=some (vI wI l)∧∃m,b.cell ⟨a,5,none⟩=some (vI wI m)∧∃n,b.cell ⟨a,6,none⟩=some (vI wI n)∧∃o,b.cell ⟨a,7,none⟩=some (vI wI o)∧∃p r q,b.cell ⟨a,8,none⟩=some (vS p r q)∧FnW wP Zmk ⟨[(vP c),(vA ⟨[(vI wI h),(vI wI i),(vI vU j),(vI vU k),(vI wI l),(vI wI m),(vI wI n),(vI wI o),(vS p r q)]⟩)]⟩ b fun E x=>
 E=vT ⟨[]⟩∧
 FnW wP Zly ⟨[(vP c)]⟩ x fun F y=>
 F=vT ⟨[]⟩∧
 FnW wP Zjr ⟨[(vP c)]⟩ y fun G v=>
 ∃s u t,G=vS s u t∧
 e (vT ⟨[(vP c),(vS s u t),(vI wI 0)]⟩) v)
def Ztg (c e:Int) (a:Nat) (y:Bool) (b:Heap) (d:Value->Heap->Prop):Prop:=
 ∃i,b.cell ⟨a,0,none⟩=some (vI wI i)∧∃j,b.cell ⟨a,1,none⟩=some (vI wI j)∧∃k,b.cell ⟨a,2,none⟩=some (vI vU k)∧∃l,b.cell ⟨a,3,none⟩=some (vI vU l)∧∃m,b.cell ⟨a,4,none⟩=some (vI wI m)∧∃n,b.cell ⟨a,5,none⟩=some (vI wI n)∧∃o,b.cell ⟨a,6,none⟩=some (vI wI o)∧∃p,b.cell ⟨a,7,none⟩=some (vI wI p)∧∃q s r,b.cell ⟨a,8,none⟩=some (vS q s r)∧FnW wP Zpa ⟨[(vA ⟨[(vI wI i),(vI wI j),(vI vU k),(vI vU l),(vI wI m),(vI wI n),(vI wI o),(vI wI p),(vS q s r)]⟩)]⟩ b fun z h=>
 ∃t,z=vB t∧
 IfB (!t)
 (Zky c e a true h d)
 (∃u,h.cell ⟨a,0,none⟩=some (vI wI u)∧
 FnW wP Zjk ⟨[(vI wI u)]⟩ h fun A f=>
 ∃v,A=vB v∧
 IfB (!v)
 (Zky c e a true f d)
 (∃w,f.cell ⟨a,1,none⟩=some (vI wI w)∧
 FnW wP Zjk ⟨[(vI wI w)]⟩ f fun B g=>
 ∃x,B=vB x∧
 IfB (!x)
 (Zky c e a true g d)
 (IfB (decide (c<0))
 (Zky c e a true g d)
 (Zky c e a y g d))))
def Zboo (g H I J K L M N O:Int) (P:Option Addr) (R Q:Nat) (f:Int) (G:Heap) (e:Value->Heap->Prop):Prop:=
 NewW G (Obj.cells ⟨[(vI wI H),(vI wI I),(vI vU J),(vI vU K),(vI wI L),(vI wI M),(vI wI N),(vI wI O),(vS P R Q)]⟩ Zm) fun a c=>
 ∃h,c.cell ⟨a,0,none⟩=some (vI wI h)∧∃i,c.cell ⟨a,1,none⟩=some (vI wI i)∧∃j,c.cell ⟨a,2,none⟩=some (vI vU j)∧∃k,c.cell ⟨a,3,none⟩=some (vI vU k)∧∃l,c.cell ⟨a,4,none⟩=some (vI wI l)∧∃m,c.cell ⟨a,5,none⟩=some (vI wI m)∧∃n,c.cell ⟨a,6,none⟩=some (vI wI n)∧∃o,c.cell ⟨a,7,none⟩=some (vI wI o)∧∃p r q,c.cell ⟨a,8,none⟩=some (vS p r q)∧FnW wP Zcn ⟨[(vA ⟨[(vI wI h),(vI wI i),(vI vU j),(vI vU k),(vI wI l),(vI wI m),(vI wI n),(vI wI o),(vS p r q)]⟩),(vI wI 2)]⟩ c fun S b=>
 ∃s,S=vB s∧
 IfB (!s)
 (Ztg g f a true b e)
 (∃t,b.cell ⟨a,0,none⟩=some (vI wI t)∧∃u,b.cell ⟨a,1,none⟩=some (vI wI u)∧∃v,b.cell ⟨a,2,none⟩=some (vI vU v)∧∃w,b.cell ⟨a,3,none⟩=some (vI vU w)∧∃x,b.cell ⟨a,4,none⟩=some (vI wI x)∧∃y,b.cell ⟨a,5,none⟩=some (vI wI y)∧∃z,b.cell ⟨a,6,none⟩=some (vI wI z)∧∃A,b.cell ⟨a,7,none⟩=some (vI wI A)∧∃B D C,b.cell ⟨a,8,none⟩=some (vS B D C)∧FnW wP Zcn ⟨[(vA ⟨[(vI wI t),(vI wI u),(vI vU v),(vI vU w),(vI wI x),(vI wI y),(vI wI z),(vI wI A),(vS B D C)]⟩),(vI wI 21)]⟩ b fun T d=>
 ∃E,T=vB E∧
 IfB E
 (Ztg g f a true d e)
 (∃U F V,d.cell ⟨a,8,none⟩=some (vS U F V)∧
 Ztg g f a (decide (((F:Int):Int)>0)) d e))
theorem Zcin (e f g h i j k l m:Int) (n:Option Addr) (p o:Nat) (d:Int) {a:Heap} {c:Value->Heap->Prop} (r:Zboo e f g h i j k l m n p o d a fun s q=>∀b,Shut a q b->c s b):FnW wP Zxt ⟨[(vI wI e),(vA ⟨[(vI wI f),(vI wI g),(vI vU h),(vI vU i),(vI wI j),(vI wI k),(vI wI l),(vI wI m),(vS n p o)]⟩),(vI vU d)]⟩ a c:=Zc Tryz.func91 ⟨[],[],[],[]⟩ (by kernel_rfl) (by kernel_rfl) r
def Zbkx (d:Nat) (a:Heap) (c:Value->Heap->Prop):Prop:=
 ∃b,a.cell ⟨d,4,none⟩=some (vP b)∧
 c (vB (!b.isNone)) a
theorem Zcem (d:Nat) {a:Heap} {c:Value->Heap->Prop} (f:Zbkx d a fun g e=>∀b,Shut a e b->c g b):FnW wP Zlp ⟨[(vP (some ⟨d,0,none⟩))]⟩ a c:=Zc Tryz.func101 ⟨[],[],[],[]⟩ (by kernel_rfl) (by kernel_rfl) f
def Zkv (c:Nat) (h:(Unit)->Heap->Prop) (f:Bool) (a:Heap) (b:Value->Heap->Prop):Prop:=
 IfB f
 (FnW wP Zxa ⟨[(vP (some ⟨c,0,none⟩))]⟩ a fun g d=>
 g=vT ⟨[]⟩∧
 Za d ⟨c,7,none⟩ (vB true) fun e=>
 b (vT ⟨[]⟩) e)
 (b (vT ⟨[]⟩) a)
def Zbnj (a:Nat) (e:Heap) (d:(Unit)->Heap->Prop) (f:Value->Heap->Prop):Prop:=
 ∃i,e.cell ⟨a,4,none⟩=some (vP i)∧
 ∃j,e.cell ⟨a,10,none⟩=some (vI wI j)∧
 FnW wP Zwz ⟨[(vP i),(vI wI j)]⟩ e fun y c=>
 ∃k,∃(l:Option Addr) (n m:Nat),∃o:Int,y=(vT ⟨[(vI vU k),(vS l n m),(vI wI o)]⟩)∧
 IfB (o !=0)
 (∃g:List Nat,(∀b∈g,∃x,c b=some x)∧
 ∃p,c.cell ⟨a,6,none⟩=some (vB p)∧
 IfB p
 (∃q,c.cell ⟨a,7,none⟩=some (vB q)∧
 IfB (!q)
 (∃r,c.cell ⟨a,4,none⟩=some (vP r)∧
 a∈g∧∃t,c.cell ⟨a,4,none⟩=some (vP t)∧
 FnW wP Zpf ⟨[(vP r)]⟩ c fun B h=>
 ∃s,B=vI wI s∧
 Zb g c h∧FnW wP Zpg ⟨[(vP t)]⟩ h fun C w=>
 ∃u,C=vI wI u∧
 Zkv a d (s==u) w f)
 (Zkv a d false c f))
 (Zkv a d false c f))
 (FnW wP Zif ⟨[(vP (some ⟨a,0,none⟩)),(vI vU k),(vI wI 24),(vS l n m)]⟩ c fun A v=>
 ∃z,A=vP z∧
 d () v)
def Zbbv (d:Nat) (b:Heap) (c:Value->Heap->Prop):Prop:=
 Zbe (Unit) () b fun g a e=>∀f:Env,Zbnj d a e c
def Zku (c:Nat) (d:Bool) (a:Heap) (b:Value->Heap->Prop):Prop:=
 IfB d
 (Zbbv c a b)
 (b (vT ⟨[]⟩) a)
def Zbnk (c:Nat) (b:Heap) (d:Value->Heap->Prop):Prop:=
 ∃a,b.cell ⟨c,0,none⟩=some (vI wI a)∧
 IfB (a==3)
 (Zku c (a==3) b d)
 (IfB (a==4)
 (Zku c (a==4) b d)
 (IfB (a==6)
 (Zku c (a==6) b d)
 (IfB (a==7)
 (Zku c (a==7) b d)
 (Zku c (a==8) b d))))
theorem Zchk (d:Nat) {a:Heap} {c:Value->Heap->Prop} (f:Zbnk d a fun g e=>∀b,Shut a e b->c g b):FnW wP Zpn ⟨[(vP (some ⟨d,0,none⟩))]⟩ a c:=Zc Tryz.func103 ⟨[(9,[0,1,2,3,4,5,6,7,8,9,10,11,12,13,14,15,16,17,19,20,21,22,18,23,24,25],[56])],[(6,[],[],[0])],[],[]⟩ (by kernel_rfl) (by kernel_rfl) f
def Zbky (b:Nat) (g:Heap) (c:Value->Heap->Prop):Prop:=
 FnW wP Zez ⟨[(vP (some ⟨b,0,none⟩))]⟩ g fun j a=>
 ∃e,j=vB e∧
 IfB (!e)
 (c (vI wI 0) a)
 (∃k f l,a.cell ⟨b,2,none⟩=some (vS k f l)∧
 ∃h d i,a.cell ⟨b,5,none⟩=some (vS h d i)∧
 c (vI wI (vW wI ((f:Int) - (d:Int)))) a)
theorem Zcen (d:Nat) {a:Heap} {c:Value->Heap->Prop} (f:Zbky d a fun g e=>∀b,Shut a e b->c g b):FnW wP Zlq ⟨[(vP (some ⟨d,0,none⟩))]⟩ a c:=Zc Tryz.func104 ⟨[],[],[],[]⟩ (by kernel_rfl) (by kernel_rfl) f
def Zblv (a:Nat) (c:Heap) (f:Value->Heap->Prop):Prop:=
 FnW wP Zpi ⟨[(vP (some ⟨a,0,none⟩))]⟩ c fun g d=>
 ∃b,g=vI vU b∧
 FnW wP Zif ⟨[(vP (some ⟨a,0,none⟩)),(vI vU b),(vI wI 16),(vS none 0 0)]⟩ d fun i e=>
 ∃h,i=vP h∧
 f (vT ⟨[]⟩) e
theorem Zcfo (d:Nat) {a:Heap} {c:Value->Heap->Prop} (f:Zblv d a fun g e=>∀b,Shut a e b->c g b):FnW wP Zpb ⟨[(vP (some ⟨d,0,none⟩))]⟩ a c:=Zc Tryz.func106 ⟨[],[],[],[]⟩ (by kernel_rfl) (by kernel_rfl) f
def Zbbc (d:Option Addr) (b z:Nat) (e c:Int) (a:Heap) (n:(Int×Int×Unit)->Heap->Prop) (f:Value->Heap->Prop):Prop:=
 IfB (decide (c<(vW wI (Int.tdiv (b:Int) 2))))
 (NilP d fun q=>
 InB (vW wI (2*c)) b fun o=>
 elemAt q o 1 fun p=>
 ∃g,a.cell p=some (vI wU g)∧
 (0:Int) <= 8∧
 NilP d fun t=>
 InB (vW wI ((vW wI (2*c))+1)) b fun r=>
 elemAt t r 1 fun s=>
 ∃h,a.cell s=some (vI wU h)∧
 FnW wP Zdf ⟨[(vI vU (vW vU ((vW vU (e+(vW vU ((vW vU g)*2^(min (8:Int).toNat (wB vU))))))+(vW vU h))))]⟩ a fun u l=>
 ∃i,u=vI vU i∧
 n (i,((vW wI (c+1)),())) l)
 ((2:Int)≠0∧
 IfB (((Int.tmod (b:Int) 2):Int)==1)
 (NilP d fun x=>
 InB (vW wI ((b:Int) - 1)) b fun v=>
 elemAt x v 1 fun w=>
 ∃j,a.cell w=some (vI wU j)∧
 (0:Int) <= 8∧
 FnW wP Zdf ⟨[(vI vU (vW vU (e+(vW vU ((vW vU j)*2^(min (8:Int).toNat (wB vU)))))))]⟩ a fun y m=>
 ∃k,y=vI vU k∧
 f (vI vU k) m)
 (f (vI vU e) a))
def Zbbd (j:Int) (f:Option Addr) (h g:Nat) (a:Heap) (e:Value->Heap->Prop):Prop:=
 FnW wP Zdf ⟨[(vI vU j)]⟩ a fun k d=>
 ∃c,k=vI vU c∧
 (2:Int)≠0∧
 Zbe (Int×Int×Unit) (c,(0,())) d fun b a i=>∀l:Env,Zbbc f h g b.1 b.2.1 a i e
theorem Zbit (g:Int) (d:Option Addr) (f e:Nat) {a:Heap} {c:Value->Heap->Prop} (i:Zbbd g d f e a fun j h=>∀b,Shut a h b->c j b):FnW wP Zol ⟨[(vI vU g),(vS d f e)]⟩ a c:=Zc Tryz.func108 ⟨[],[(3,[5,12],[.int vU,.int wI],[1,11])],[],[]⟩ (by kernel_rfl) (by kernel_rfl) i
def Zbcs (n o E F:Int) (w:Heap) (c:Value->Heap->Prop):Prop:=
 (0:Int) <= 16∧
 (0:Int) <= 16∧
 NewW w (Obj.cells ⟨[(vI vU 0),(vI vU 0),(vI vU 0),(vI vU 0),(vI vU 0),(vI vU 0)]⟩ Zlb) fun a x=>
 Za x ⟨a,0,none⟩ (vI vU (Int.fdiv n (2^(min (16:Int).toNat (wB vU))))) fun z=>
 Za z ⟨a,1,none⟩ (vI vU (Zbc vU n 65535)) fun A=>
 Za A ⟨a,2,none⟩ (vI vU (Int.fdiv o (2^(min (16:Int).toNat (wB vU))))) fun B=>
 Za B ⟨a,3,none⟩ (vI vU (Zbc vU o 65535)) fun C=>
 Za C ⟨a,4,none⟩ (vI vU (vW vU E)) fun D=>
 Za D ⟨a,5,none⟩ (vI vU (vW vU (Zbc wI F 65535))) fun b=>
 ∃p,b.cell ⟨a,0,none⟩=some (vI vU p)∧∃q,b.cell ⟨a,1,none⟩=some (vI vU q)∧∃r,b.cell ⟨a,2,none⟩=some (vI vU r)∧∃s,b.cell ⟨a,3,none⟩=some (vI vU s)∧∃t,b.cell ⟨a,4,none⟩=some (vI vU t)∧∃u,b.cell ⟨a,5,none⟩=some (vI vU u)∧IfB (decide ((0:Int)<6))
 ((0:Int) <= 0∧(0:Int)<6∧
 FnW wP Zdf ⟨[(vI vU (vW vU (0+p)))]⟩ b fun G l=>
 ∃d,G=vI vU d∧
 IfB (decide (((vW wI (0+1)):Int)<6))
 ((0:Int) <= (vW wI (0+1))∧((vW wI (0+1)):Int)<6∧
 FnW wP Zdf ⟨[(vI vU (vW vU (d+q)))]⟩ l fun H m=>
 ∃e,H=vI vU e∧
 IfB (decide (((vW wI ((vW wI (0+1))+1)):Int)<6))
 ((0:Int) <= (vW wI ((vW wI (0+1))+1))∧((vW wI ((vW wI (0+1))+1)):Int)<6∧
 FnW wP Zdf ⟨[(vI vU (vW vU (e+r)))]⟩ m fun I i=>
 ∃f,I=vI vU f∧
 IfB (decide (((vW wI ((vW wI ((vW wI (0+1))+1))+1)):Int)<6))
 ((0:Int) <= (vW wI ((vW wI ((vW wI (0+1))+1))+1))∧((vW wI ((vW wI ((vW wI (0+1))+1))+1)):Int)<6∧
 FnW wP Zdf ⟨[(vI vU (vW vU (f+s)))]⟩ i fun J j=>
 ∃g,J=vI vU g∧
 IfB (decide (((vW wI ((vW wI ((vW wI ((vW wI (0+1))+1))+1))+1)):Int)<6))
 ((0:Int) <= (vW wI ((vW wI ((vW wI ((vW wI (0+1))+1))+1))+1))∧((vW wI ((vW wI ((vW wI ((vW wI (0+1))+1))+1))+1)):Int)<6∧
 FnW wP Zdf ⟨[(vI vU (vW vU (g+t)))]⟩ j fun K k=>
 ∃h,K=vI vU h∧
 IfB (decide (((vW wI ((vW wI ((vW wI ((vW wI ((vW wI (0+1))+1))+1))+1))+1)):Int)<6))
 ((0:Int) <= (vW wI ((vW wI ((vW wI ((vW wI ((vW wI (0+1))+1))+1))+1))+1))∧((vW wI ((vW wI ((vW wI ((vW wI ((vW wI (0+1))+1))+1))+1))+1)):Int)<6∧
 FnW wP Zdf ⟨[(vI vU (vW vU (h+u)))]⟩ k fun L y=>
 ∃v,L=vI vU v∧
 IfB (decide (((vW wI ((vW wI ((vW wI ((vW wI ((vW wI ((vW wI (0+1))+1))+1))+1))+1))+1)):Int)<6))
 ((0:Int) <= (vW wI ((vW wI ((vW wI ((vW wI ((vW wI ((vW wI (0+1))+1))+1))+1))+1))+1))∧((vW wI ((vW wI ((vW wI ((vW wI ((vW wI ((vW wI (0+1))+1))+1))+1))+1))+1)):Int)<6∧
 False)
 (c (vI vU v) y))
 (c (vI vU h) k))
 (c (vI vU g) j))
 (c (vI vU f) i))
 (c (vI vU e) m))
 (c (vI vU d) l))
 (c (vI vU 0) b)
theorem Zbrb (d g e f:Int) {a:Heap} {c:Value->Heap->Prop} (i:Zbcs d g e f a fun j h=>∀b,Shut a h b->c j b):FnW wP Zpy ⟨[(vI vU d),(vI vU g),(vI wU e),(vI wI f)]⟩ a c:=Zc Tryz.func109 ⟨[],[],[(4,7)],[]⟩ (by kernel_rfl) (by kernel_rfl) i
def Zblb (b:Nat) (j:Int) (a:Heap) (i:Value->Heap->Prop):Prop:=
 ∃e,a.cell ⟨b,3,none⟩=some (vI vU e)∧
 FnW wP Zdl ⟨[(vI vU e),(vI wI 1)]⟩ a fun k f=>
 ∃c,k=vI vU c∧
 FnW wP Zym ⟨[(vI vU c),(vI wI 4096),(vI wI 0),(vI wI j)]⟩ f fun m g=>
 ∃d,∃l:Int,m=(vT ⟨[(vP d),(vI wI l)]⟩)∧
 Za g ⟨b,4,none⟩ (vP d) fun h=>
 i (vT ⟨[]⟩) h
theorem Zcep (d:Nat) (e:Int) {a:Heap} {c:Value->Heap->Prop} (g:Zblb d e a fun h f=>∀b,Shut a f b->c h b):FnW wP Zlr ⟨[(vP (some ⟨d,0,none⟩)),(vI wI e)]⟩ a c:=Zc Tryz.func113 ⟨[],[],[],[]⟩ (by kernel_rfl) (by kernel_rfl) g
def Zbsa (a:Nat) (x B:Int) (y:Option Addr) (A z:Nat) (c:Heap) (w:Value->Heap->Prop):Prop:=
 ∃d:List Nat,(∀b∈d,∃C,c b=some C)∧
 a∈d∧∃i k j,c.cell ⟨a,12,none⟩=some (vS i k j)∧
 a∈d∧∃l,c.cell ⟨a,1,none⟩=some (vI wI l)∧
 a∈d∧∃m,c.cell ⟨a,2,none⟩=some (vI wI m)∧
 FnW wP Zig ⟨[(vP (some ⟨a,0,none⟩))]⟩ c fun D f=>
 ∃n,D=vI vU n∧
 Zb d c f∧FnW wP Zxb ⟨[(vP (some ⟨a,0,none⟩))]⟩ f fun E g=>
 ∃o,E=vI wI o∧
 Zb d c g∧NewW g (Obj.cells ⟨[(vI wI l),(vI wI m),(vI vU x),(vI vU n),(vI wI B),(vI wI o),(vI wI 0),(vI wI 0),(vS y A z)]⟩ Zm) fun F v=>
 AppW wP #[Zfy,Zfy] Zfy [(vS i k j),(vS (some ⟨F,0,none⟩) 1 1)] v fun G h=>
 ∃p r q,G=vS p r q∧
 Zb d c h∧Za h ⟨a,12,none⟩ (vS p r q) fun e=>
 ∃s t H,e.cell ⟨a,12,none⟩=some (vS s t H)∧
 ∃I u J,e.cell ⟨a,12,none⟩=some (vS I u J)∧
 NilP s fun M=>
 InB (vW wI ((u:Int) - 1)) t fun K=>
 elemAt M K 9 fun L=>
 w (vP (some L)) e
theorem Zclb (h:Nat) (d i:Int) (e:Option Addr) (g f:Nat) {a:Heap} {c:Value->Heap->Prop} (k:Zbsa h d i e g f a fun l j=>∀b,Shut a j b->c l b):FnW wP Zif ⟨[(vP (some ⟨h,0,none⟩)),(vI vU d),(vI wI i),(vS e g f)]⟩ a c:=Zc Tryz.func114 ⟨[(1,[0,1,2,3,4,5,6,7,8,9,10,11,12,13,14,16,17,19,15,18,20,21,22,23,24,25],[13,17,21])],[],[],[]⟩ (by kernel_rfl) (by kernel_rfl) k
def Zsy (f:Nat) (g:Bool) (a:Heap) (b:Value->Heap->Prop):Prop:=
 IfB g
 (b (vB true) a)
 (∃c,a.cell ⟨f,4,none⟩=some (vP c)∧
 FnW wP Zpf ⟨[(vP c)]⟩ a fun h e=>
 ∃d,h=vI wI d∧
 b (vB (decide (d>0))) e)
def Zsx (a:Nat) (j:Bool) (b:Heap) (d:Value->Heap->Prop):Prop:=
 IfB j
 (d (vB true) b)
 (∃e,b.cell ⟨a,4,none⟩=some (vP e)∧
 FnW wP Zxc ⟨[(vP e)]⟩ b fun k c=>
 ∃f,k=vI wI f∧
 IfB (f==0)
 (∃g,c.cell ⟨a,4,none⟩=some (vP g)∧
 FnW wP Zpg ⟨[(vP g)]⟩ c fun l i=>
 ∃h,l=vI wI h∧
 Zsy a (decide (h>0)) i d)
 (Zsy a false c d))
def Zsw (b:Nat) (f:Bool) (a:Heap) (c:Value->Heap->Prop):Prop:=
 IfB f
 (c (vB true) a)
 (∃d,a.cell ⟨b,7,none⟩=some (vB d)∧
 IfB d
 (∃e,a.cell ⟨b,8,none⟩=some (vB e)∧
 Zsx b (!e) a c)
 (Zsx b false a c))
def Zboa (b:Nat) (a:Heap) (c:Value->Heap->Prop):Prop:=
 ∃e,a.cell ⟨b,0,none⟩=some (vI wI e)∧
 IfB (e==1)
 (Zsw b true a c)
 (∃d,a.cell ⟨b,0,none⟩=some (vI wI d)∧
 Zsw b (d==2) a c)
theorem Zcic (d:Nat) {a:Heap} {c:Value->Heap->Prop} (f:Zboa d a fun g e=>∀b,Shut a e b->c g b):FnW wP Zxq ⟨[(vP (some ⟨d,0,none⟩))]⟩ a c:=Zc Tryz.func115 ⟨[],[],[],[]⟩ (by kernel_rfl) (by kernel_rfl) f
def Zbmt (c:Nat) (g:Heap) (b:Value->Heap->Prop):Prop:=
 FnW wP Zfk ⟨[(vP (some ⟨c,0,none⟩))]⟩ g fun j a=>
 ∃e,j=vB e∧
 IfB (!e)
 (b (vI wI 0) a)
 (∃f,a.cell ⟨c,0,none⟩=some (vP f)∧
 FnW wP Zxp ⟨[(vP f)]⟩ a fun i h=>
 ∃d,i=vI wI d∧
 b (vI wI d) h)
theorem Zcgu (d:Nat) {a:Heap} {c:Value->Heap->Prop} (f:Zbmt d a fun g e=>∀b,Shut a e b->c g b):FnW wP Zwx ⟨[(vP (some ⟨d,0,none⟩))]⟩ a c:=Zc Tryz.func116 ⟨[],[],[],[]⟩ (by kernel_rfl) (by kernel_rfl) f
def Zsi (c:Nat) (j k g h i:Int) (f:Bool) (a:Heap) (b:Value->Heap->Prop):Prop:=
 IfB f
 (b (vB false) a)
 (IfB (decide (((vW wI ((vW wI ((vW wI ((vW wI ((vW wI (0+1))+1))+1))+1))+1)):Int)<5))
 ((0:Int) <= (vW wI ((vW wI ((vW wI ((vW wI ((vW wI (0+1))+1))+1))+1))+1))∧((vW wI ((vW wI ((vW wI ((vW wI ((vW wI (0+1))+1))+1))+1))+1)):Int)<5∧
 False)
 (∃d,a.cell ⟨c,4,none⟩=some (vI wI d)∧
 IfB (decide (d≥0))
 (∃e,a.cell ⟨c,4,none⟩=some (vI wI e)∧
 b (vB (decide (e<64))) a)
 (b (vB false) a)))
def Zsh (c:Nat) (i j e f d:Int) (k:Bool) (a:Heap) (b:Value->Heap->Prop):Prop:=
 IfB k
 (b (vB false) a)
 (IfB (decide (((vW wI ((vW wI ((vW wI ((vW wI (0+1))+1))+1))+1)):Int)<5))
 ((0:Int) <= (vW wI ((vW wI ((vW wI ((vW wI (0+1))+1))+1))+1))∧((vW wI ((vW wI ((vW wI ((vW wI (0+1))+1))+1))+1)):Int)<5∧
 IfB (decide (d<0))
 (Zsi c i j e f d true a b)
 (Zsi c i j e f d (decide (d>65535)) a b))
 (∃g,a.cell ⟨c,4,none⟩=some (vI wI g)∧
 IfB (decide (g≥0))
 (∃h,a.cell ⟨c,4,none⟩=some (vI wI h)∧
 b (vB (decide (h<64))) a)
 (b (vB false) a)))
def Zsg (c:Nat) (i j e d f:Int) (k:Bool) (a:Heap) (b:Value->Heap->Prop):Prop:=
 IfB k
 (b (vB false) a)
 (IfB (decide (((vW wI ((vW wI ((vW wI (0+1))+1))+1)):Int)<5))
 ((0:Int) <= (vW wI ((vW wI ((vW wI (0+1))+1))+1))∧((vW wI ((vW wI ((vW wI (0+1))+1))+1)):Int)<5∧
 IfB (decide (d<0))
 (Zsh c i j e d f true a b)
 (Zsh c i j e d f (decide (d>65535)) a b))
 (∃g,a.cell ⟨c,4,none⟩=some (vI wI g)∧
 IfB (decide (g≥0))
 (∃h,a.cell ⟨c,4,none⟩=some (vI wI h)∧
 b (vB (decide (h<64))) a)
 (b (vB false) a)))
def Zsf (c:Nat) (i j d e f:Int) (k:Bool) (a:Heap) (b:Value->Heap->Prop):Prop:=
 IfB k
 (b (vB false) a)
 (IfB (decide (((vW wI ((vW wI (0+1))+1)):Int)<5))
 ((0:Int) <= (vW wI ((vW wI (0+1))+1))∧((vW wI ((vW wI (0+1))+1)):Int)<5∧
 IfB (decide (d<0))
 (Zsg c i j d e f true a b)
 (Zsg c i j d e f (decide (d>65535)) a b))
 (∃g,a.cell ⟨c,4,none⟩=some (vI wI g)∧
 IfB (decide (g≥0))
 (∃h,a.cell ⟨c,4,none⟩=some (vI wI h)∧
 b (vB (decide (h<64))) a)
 (b (vB false) a)))
def Zse (c:Nat) (j d e f g:Int) (k:Bool) (a:Heap) (b:Value->Heap->Prop):Prop:=
 IfB k
 (b (vB false) a)
 (IfB (decide (((vW wI (0+1)):Int)<5))
 ((0:Int) <= (vW wI (0+1))∧((vW wI (0+1)):Int)<5∧
 IfB (decide (d<0))
 (Zsf c j d e f g true a b)
 (Zsf c j d e f g (decide (d>65535)) a b))
 (∃h,a.cell ⟨c,4,none⟩=some (vI wI h)∧
 IfB (decide (h≥0))
 (∃i,a.cell ⟨c,4,none⟩=some (vI wI i)∧
 b (vB (decide (i<64))) a)
 (b (vB false) a)))
def Zbmn (l m n o p q r s:Int) (t:Option Addr) (v u:Nat) (k:Heap) (d:Value->Heap->Prop):Prop:=
 NewW k (Obj.cells ⟨[(vI wI l),(vI wI m),(vI vU n),(vI vU o),(vI wI p),(vI wI q),(vI wI r),(vI wI s),(vS t v u)]⟩ Zm) fun b a=>
 ∃c,a.cell ⟨b,0,none⟩=some (vI wI c)∧
 ∃h,a.cell ⟨b,1,none⟩=some (vI wI h)∧
 ∃e,a.cell ⟨b,5,none⟩=some (vI wI e)∧
 ∃f,a.cell ⟨b,6,none⟩=some (vI wI f)∧
 ∃g,a.cell ⟨b,7,none⟩=some (vI wI g)∧
 IfB (decide ((0:Int)<5))
 ((0:Int) <= 0∧(0:Int)<5∧
 IfB (decide (c<0))
 (Zse b c h e f g true a d)
 (Zse b c h e f g (decide (c>65535)) a d))
 (∃i,a.cell ⟨b,4,none⟩=some (vI wI i)∧
 IfB (decide (i≥0))
 (∃j,a.cell ⟨b,4,none⟩=some (vI wI j)∧
 d (vB (decide (j<64))) a)
 (d (vB false) a))
theorem Zcgo (d e f g h i j k:Int) (l:Option Addr) (n m:Nat) {a:Heap} {c:Value->Heap->Prop} (p:Zbmn d e f g h i j k l n m a fun q o=>∀b,Shut a o b->c q b):FnW wP Zwm ⟨[(vA ⟨[(vI wI d),(vI wI e),(vI vU f),(vI vU g),(vI wI h),(vI wI i),(vI wI j),(vI wI k),(vS l n m)]⟩)]⟩ a c:=Zc Tryz.func117 ⟨[],[],[(2,6)],[]⟩ (by kernel_rfl) (by kernel_rfl) p
def Zbbs (i j k l m n o p:Int) (q:Option Addr) (s r:Nat) (g:Heap) (c:Value->Heap->Prop):Prop:=
 NewW g (Obj.cells ⟨[(vI wI i),(vI wI j),(vI vU k),(vI vU l),(vI wI m),(vI wI n),(vI wI o),(vI wI p),(vS q s r)]⟩ Zm) fun b a=>
 ∃e,a.cell ⟨b,7,none⟩=some (vI wI e)∧
 IfB (e==0)
 (c (vS none 0 0) a)
 (∃f,a.cell ⟨b,7,none⟩=some (vI wI f)∧
 (0:Int) <= 8∧
 ∃d,a.cell ⟨b,7,none⟩=some (vI wI d)∧
 NewW a (Obj.cells ⟨[(vI wU 2),(vI wU 4),(vI wU (vW wU (Int.fdiv f (2^(min (8:Int).toNat (wB wI)))))),(vI wU (vW wU d))]⟩ Zh) fun t h=>
 c (vS (some ⟨t,0,none⟩) 4 4) h)
theorem Zbki (d e f g h i j k:Int) (l:Option Addr) (n m:Nat) {a:Heap} {c:Value->Heap->Prop} (p:Zbbs d e f g h i j k l n m a fun q o=>∀b,Shut a o b->c q b):FnW wP Zop ⟨[(vA ⟨[(vI wI d),(vI wI e),(vI vU f),(vI vU g),(vI wI h),(vI wI i),(vI wI j),(vI wI k),(vS l n m)]⟩)]⟩ a c:=Zc Tryz.func118 ⟨[],[],[],[]⟩ (by kernel_rfl) (by kernel_rfl) p
def Zne (a:Option Addr) (b n:Nat) (c:Int) (d:Heap) (g:Value->Heap->Prop):Prop:=
 (0:Int) <= 8∧
 NilP a fun j=>
 InB 0 b fun h=>
 elemAt j h 1 fun i=>
 Za d i (vI wU (vW wU (Int.fdiv c (2^(min (8:Int).toNat (wB wI)))))) fun e=>
 NilP a fun m=>
 InB 1 b fun k=>
 elemAt m k 1 fun l=>
 Za e l (vI wU (vW wU c)) fun f=>
 g (vT ⟨[]⟩) f
theorem Zso (d:Option Addr) (f e:Nat) (g:Int) {a:Heap} {c:Value->Heap->Prop} (i:Zne d f e g a fun j h=>∀b,Shut a h b->c j b):FnW wP Zct ⟨[(vS d f e),(vI wI g)]⟩ a c:=Zc Tryz.func119 ⟨[],[],[],[]⟩ (by kernel_rfl) (by kernel_rfl) i
def Zbco (b:Option Addr) (d c:Nat) (e:Int) (f:Heap) (i:Value->Heap->Prop):Prop:=
 (0:Int) <= 16∧
 FnW wP Zct ⟨[(vS b d c),(vI wI (vW wI (Int.fdiv e (2^(min (16:Int).toNat (wB vU))))))]⟩ f fun l g=>
 l=vT ⟨[]⟩∧
 InC 2 d fun a=>
 FnW wP Zct ⟨[(vS (if c=a then b else vM (fun j=>Addr.add j (a*1)) b) (d - a) (c - a)),(vI wI (vW wI e))]⟩ g fun k h=>
 k=vT ⟨[]⟩∧
 i (vT ⟨[]⟩) h
theorem Zbqr (d:Option Addr) (f e:Nat) (g:Int) {a:Heap} {c:Value->Heap->Prop} (i:Zbco d f e g a fun j h=>∀b,Shut a h b->c j b):FnW wP Zid ⟨[(vS d f e),(vI vU g)]⟩ a c:=Zc Tryz.func120 ⟨[],[],[],[]⟩ (by kernel_rfl) (by kernel_rfl) i
def Zbct (e:Int) (b:Heap) (d:Value->Heap->Prop):Prop:=
 FnW wP Zdf ⟨[(vI vU e)]⟩ b fun f c=>
 ∃a,f=vI vU a∧
 d (vI .u16 (Zvh .u16 (if IntKind.signed .u16=true then (-1) else IntKind.max .u16) (vW .u16 a))) c
theorem Zbrc (d:Int) {a:Heap} {c:Value->Heap->Prop} (f:Zbct d a fun g e=>∀b,Shut a e b->c g b):FnW wP Zpz ⟨[(vI vU d)]⟩ a c:=Zc Tryz.func121 ⟨[],[],[],[]⟩ (by kernel_rfl) (by kernel_rfl) f
def Zzg:Plan:=⟨[],[],[],[]⟩
theorem Zbff:Known wP Zjq Tryz.f126 Zzg (Zbw Tryz.f126):=by refine ⟨Tryz.func126,?_,?_,?_,?_,?_⟩<;>kernel_rfl
def Zbbz (c:Nat) (f:Heap) (b:Value->Heap->Prop):Prop:=
 FnW wP Zez ⟨[(vP (some ⟨c,0,none⟩))]⟩ f fun g a=>
 ∃d,g=vB d∧
 IfB (!d)
 (b (vI wI 0) a)
 (∃h e i,a.cell ⟨c,5,none⟩=some (vS h e i)∧
 b (vI wI (e:Int)) a)
theorem Zchr (c:Nat) (a:Heap) (b:Value->Heap->Prop):Zbbz c a b=Ze wP Zzg (Zbw Tryz.f126) (env0 [(vP (some ⟨c,0,none⟩))]) a (RetW wP Tryz.f126.results.toList b):=by kernel_rfl
theorem Zchu (b:Nat) {a:Heap} {d:Value->Heap->Prop} (f:Zbbz b a fun g e=>∀c,Shut a e c->d g c):FnW wP Zjq ⟨[(vP (some ⟨b,0,none⟩))]⟩ a d:=FnW.of_code Zbff (by kernel_rfl) (Eq.mp (Zchr b a _) f)
def Zbby (b:Heap) (d:Value->Heap->Prop):Prop:=
 FnW wP Zez ⟨[(vP none)]⟩ b fun e c=>
 ∃a,e=vB a∧
 IfB (!a)
 (d (vI wI 0) c)
 (False)
theorem Zchs (a:Heap) (b:Value->Heap->Prop):Zbby a b=Ze wP Zzg (Zbw Tryz.f126) (env0 [(vP none)]) a (RetW wP Tryz.f126.results.toList b):=by kernel_rfl
theorem Zcht {a:Heap} {c:Value->Heap->Prop} (e:Zbby a fun f d=>∀b,Shut a d b->c f b):FnW wP Zjq ⟨[(vP none)]⟩ a c:=FnW.of_code Zbff (by kernel_rfl) (Eq.mp (Zchs a _) e)
def Zbob (f g h i j k l m:Int) (n:Option Addr) (p o:Nat) (e:Int) (c:Heap) (d:Value->Heap->Prop):Prop:=
 NewW c (Obj.cells ⟨[(vI wI f),(vI wI g),(vI vU h),(vI vU i),(vI wI j),(vI wI k),(vI wI l),(vI wI m),(vS n p o)]⟩ Zm) fun q a=>
 ∃b,a.cell ⟨q,4,none⟩=some (vI wI b)∧
 d (vB (((Zbc wI b e):Int) !=0)) a
theorem Zcid (e f g h i j k l:Int) (m:Option Addr) (o n:Nat) (d:Int) {a:Heap} {c:Value->Heap->Prop} (q:Zbob e f g h i j k l m o n d a fun r p=>∀b,Shut a p b->c r b):FnW wP Zcn ⟨[(vA ⟨[(vI wI e),(vI wI f),(vI vU g),(vI vU h),(vI wI i),(vI wI j),(vI wI k),(vI wI l),(vS m o n)]⟩),(vI wI d)]⟩ a c:=Zc Tryz.func127 ⟨[],[],[],[]⟩ (by kernel_rfl) (by kernel_rfl) q
def Zblw (f:Nat) (a8 a9 b0 b1 b2 b3 b4 b5:Int) (b6:Option Addr) (b8 b7:Nat) (U:Heap) (e:Value->Heap->Prop):Prop:=
 NewW U (Obj.cells ⟨[(vI wI a8),(vI wI a9),(vI vU b0),(vI vU b1),(vI wI b2),(vI wI b3),(vI wI b4),(vI wI b5),(vS b6 b8 b7)]⟩ Zm) fun d c=>
 ∃x,c.cell ⟨d,0,none⟩=some (vI wI x)∧∃y,c.cell ⟨d,1,none⟩=some (vI wI y)∧∃z,c.cell ⟨d,2,none⟩=some (vI vU z)∧∃A,c.cell ⟨d,3,none⟩=some (vI vU A)∧∃B,c.cell ⟨d,4,none⟩=some (vI wI B)∧∃C,c.cell ⟨d,5,none⟩=some (vI wI C)∧∃D,c.cell ⟨d,6,none⟩=some (vI wI D)∧∃E,c.cell ⟨d,7,none⟩=some (vI wI E)∧∃F H G,c.cell ⟨d,8,none⟩=some (vS F H G)∧FnW wP Zpx ⟨[(vA ⟨[(vI wI x),(vI wI y),(vI vU z),(vI vU A),(vI wI B),(vI wI C),(vI wI D),(vI wI E),(vS F H G)]⟩)]⟩ c fun c1 a0=>
 ∃I,∃J:Int,∃K:Int,∃L:Int,∃M:Int,∃N:Int,∃O:Int,∃P:Int,∃(Q:Option Addr) (S R:Nat),∃T:Bool,c1=(vT ⟨[(vA ⟨[(vI wI I),(vI wI J),(vI vU K),(vI vU L),(vI wI M),(vI wI N),(vI wI O),(vI wI P),(vS Q S R)]⟩),(vB T)]⟩)∧
 NewW a0 (Obj.cells ⟨[(vI wI 0),(vI wI 0),(vI vU 0),(vI vU 0),(vI wI 0),(vI wI 0),(vI wI 0),(vI wI 0),(vS none 0 0)]⟩ Zm) fun a a1=>
 Za a1 ⟨a,0,none⟩ (vI wI I) fun a2=>
 Za a2 ⟨a,1,none⟩ (vI wI J) fun a3=>
 Za a3 ⟨a,2,none⟩ (vI vU K) fun a4=>
 Za a4 ⟨a,3,none⟩ (vI vU L) fun a5=>
 Za a5 ⟨a,4,none⟩ (vI wI M) fun a6=>
 Za a6 ⟨a,5,none⟩ (vI wI N) fun a7=>
 Za a7 ⟨a,6,none⟩ (vI wI O) fun V=>
 Za V ⟨a,7,none⟩ (vI wI P) fun W=>
 Za W ⟨a,8,none⟩ (vS Q S R) fun b=>
 IfB T
 (∃g i h,b.cell ⟨f,12,none⟩=some (vS g i h)∧
 ∃j,b.cell ⟨a,0,none⟩=some (vI wI j)∧∃k,b.cell ⟨a,1,none⟩=some (vI wI k)∧∃l,b.cell ⟨a,2,none⟩=some (vI vU l)∧∃m,b.cell ⟨a,3,none⟩=some (vI vU m)∧∃n,b.cell ⟨a,4,none⟩=some (vI wI n)∧∃o,b.cell ⟨a,5,none⟩=some (vI wI o)∧∃p,b.cell ⟨a,6,none⟩=some (vI wI p)∧∃q,b.cell ⟨a,7,none⟩=some (vI wI q)∧∃r t s,b.cell ⟨a,8,none⟩=some (vS r t s)∧NewW b (Obj.cells ⟨[(vI wI j),(vI wI k),(vI vU l),(vI vU m),(vI wI n),(vI wI o),(vI wI p),(vI wI q),(vS r t s)]⟩ Zm) fun b9 X=>
 AppW wP #[Zfy,Zfy] Zfy [(vS g i h),(vS (some ⟨b9,0,none⟩) 1 1)] X fun c0 Y=>
 ∃u w v,c0=vS u w v∧
 Za Y ⟨f,12,none⟩ (vS u w v) fun Z=>
 e (vT ⟨[]⟩) Z)
 (e (vT ⟨[]⟩) b)
theorem Zcfp (d:Nat) (e f g h i j k l:Int) (m:Option Addr) (o n:Nat) {a:Heap} {c:Value->Heap->Prop} (q:Zblw d e f g h i j k l m o n a fun r p=>∀b,Shut a p b->c r b):FnW wP Zpc ⟨[(vP (some ⟨d,0,none⟩)),(vA ⟨[(vI wI e),(vI wI f),(vI vU g),(vI vU h),(vI wI i),(vI wI j),(vI wI k),(vI wI l),(vS m o n)]⟩)]⟩ a c:=Zc Tryz.func128 ⟨[],[],[],[]⟩ (by kernel_rfl) (by kernel_rfl) q
def Zblx (a:Nat) (b:Heap) (e:Value->Heap->Prop):Prop:=
 FnW wP Zpj ⟨[(vP (some ⟨a,0,none⟩))]⟩ b fun f c=>
 f=vT ⟨[]⟩∧
 Za c ⟨a,12,none⟩ (vS none 0 0) fun d=>
 e (vI wI 151) d
theorem Zcfq (d:Nat) {a:Heap} {c:Value->Heap->Prop} (f:Zblx d a fun g e=>∀b,Shut a e b->c g b):FnW wP Zpd ⟨[(vP (some ⟨d,0,none⟩))]⟩ a c:=Zc Tryz.func129 ⟨[],[],[],[]⟩ (by kernel_rfl) (by kernel_rfl) f
def Zbcx (d:Nat) (z A B C D E F G:Int) (H:Option Addr) (J I:Nat) (t:Heap) (y:Value->Heap->Prop):Prop:=
 NewW t (Obj.cells ⟨[(vI wI z),(vI wI A),(vI vU B),(vI vU C),(vI wI D),(vI wI E),(vI wI F),(vI wI G),(vS H J I)]⟩ Zm) fun b c=>
 ∃q,c.cell ⟨b,2,none⟩=some (vI vU q)∧
 FnW wP Zdl ⟨[(vI vU q),(vI wI 1)]⟩ c fun M u=>
 ∃r,M=vI vU r∧
 FnW wP Zwc ⟨[(vI vU r),(vI wI 4096)]⟩ u fun O v=>
 ∃s,∃N:Int,O=(vT ⟨[(vP s),(vI wI N)]⟩)∧
 Za v ⟨d,5,none⟩ (vP s) fun a=>
 ∃e,a.cell ⟨b,0,none⟩=some (vI wI e)∧∃f,a.cell ⟨b,1,none⟩=some (vI wI f)∧∃g,a.cell ⟨b,2,none⟩=some (vI vU g)∧∃h,a.cell ⟨b,3,none⟩=some (vI vU h)∧∃i,a.cell ⟨b,4,none⟩=some (vI wI i)∧∃j,a.cell ⟨b,5,none⟩=some (vI wI j)∧∃k,a.cell ⟨b,6,none⟩=some (vI wI k)∧∃l,a.cell ⟨b,7,none⟩=some (vI wI l)∧∃m o n,a.cell ⟨b,8,none⟩=some (vS m o n)∧FnW wP Zxd ⟨[(vA ⟨[(vI wI e),(vI wI f),(vI vU g),(vI vU h),(vI wI i),(vI wI j),(vI wI k),(vI wI l),(vS m o n)]⟩)]⟩ a fun K w=>
 ∃p,K=vI wI p∧
 FnW wP Zlr ⟨[(vP (some ⟨d,0,none⟩)),(vI wI p)]⟩ w fun L x=>
 L=vT ⟨[]⟩∧
 y (vT ⟨[]⟩) x
theorem Zbsb (d:Nat) (e f g h i j k l:Int) (m:Option Addr) (o n:Nat) {a:Heap} {c:Value->Heap->Prop} (q:Zbcx d e f g h i j k l m o n a fun r p=>∀b,Shut a p b->c r b):FnW wP Zmk ⟨[(vP (some ⟨d,0,none⟩)),(vA ⟨[(vI wI e),(vI wI f),(vI vU g),(vI vU h),(vI wI i),(vI wI j),(vI wI k),(vI wI l),(vS m o n)]⟩)]⟩ a c:=Zc Tryz.func130 ⟨[],[],[],[]⟩ (by kernel_rfl) (by kernel_rfl) q
def Zbly (b:Nat) (m n o p q r s t:Int) (u:Option Addr) (w v:Nat) (h:Heap) (l:Value->Heap->Prop):Prop:=
 NewW h (Obj.cells ⟨[(vI wI m),(vI wI n),(vI vU o),(vI vU p),(vI wI q),(vI wI r),(vI wI s),(vI wI t),(vS u w v)]⟩ Zm) fun c i=>
 Za i ⟨b,0,none⟩ (vI wI 3) fun j=>
 FnW wP Zlt ⟨[(vP (some ⟨b,0,none⟩))]⟩ j fun A a=>
 A=vT ⟨[]⟩∧
 ∃d,a.cell ⟨b,4,none⟩=some (vP d)∧
 ∃e,a.cell ⟨b,10,none⟩=some (vI wI e)∧
 ∃f,a.cell ⟨c,3,none⟩=some (vI vU f)∧
 ∃g,a.cell ⟨c,5,none⟩=some (vI wI g)∧
 FnW wP Zju ⟨[(vP d),(vI wI e),(vI vU f),(vI wI g)]⟩ a fun z k=>
 ∃x,∃y:Int,z=(vT ⟨[(vI wI x),(vI wI y)]⟩)∧
 l (vT ⟨[]⟩) k
theorem Zcfr (d:Nat) (e f g h i j k l:Int) (m:Option Addr) (o n:Nat) {a:Heap} {c:Value->Heap->Prop} (q:Zbly d e f g h i j k l m o n a fun r p=>∀b,Shut a p b->c r b):FnW wP Zpe ⟨[(vP (some ⟨d,0,none⟩)),(vA ⟨[(vI wI e),(vI wI f),(vI vU g),(vI vU h),(vI wI i),(vI wI j),(vI wI k),(vI wI l),(vS m o n)]⟩)]⟩ a c:=Zc Tryz.func131 ⟨[],[],[],[]⟩ (by kernel_rfl) (by kernel_rfl) q
def Zuc (c e b g:Int) (o:Bool) (d:Heap) (a:Value->Heap->Prop):Prop:=
 IfB o
 (a (vT ⟨[(vB (b==c)),(vI wI 0)]⟩) d)
 (IfB (g==0)
 (FnW wP Zme ⟨[(vI vU b),(vI vU c),(vI wI e)]⟩ d fun p l=>
 ∃h,p=vB h∧
 a (vT ⟨[(vB h),(vI wI 0)]⟩) l)
 (FnW wP Zme ⟨[(vI vU b),(vI vU c),(vI wI e)]⟩ d fun q f=>
 ∃i,q=vB i∧
 IfB i
 (a (vT ⟨[(vB true),(vI wI 0)]⟩) f)
 (FnW wP Zdl ⟨[(vI vU b),(vI wI (vW wI (g - 1)))]⟩ f fun r m=>
 ∃j,r=vI vU j∧
 FnW wP Zme ⟨[(vI vU j),(vI vU c),(vI wI e)]⟩ m fun s n=>
 ∃k,s=vB k∧
 a (vT ⟨[(vB k),(vI wI 0)]⟩) n)))
def Zbqc (f b e a:Int) (h:Heap) (d:Value->Heap->Prop):Prop:=
 FnW wP Zon ⟨[(vI wI b),(vI wI a)]⟩ h fun i c=>
 ∃g,i=vB g∧
 IfB (!g)
 (d (vT ⟨[(vB false),(vI wI 2)]⟩) c)
 (IfB (a==0)
 (Zuc f b e a (b==0) c d)
 (Zuc f b e a false c d))
theorem Zcjr (f g d e:Int) {a:Heap} {c:Value->Heap->Prop} (i:Zbqc f g d e a fun j h=>∀b,Shut a h b->c j b):FnW wP Zye ⟨[(vI vU f),(vI wI g),(vI vU d),(vI wI e)]⟩ a c:=Zc Tryz.func132 ⟨[],[],[],[]⟩ (by kernel_rfl) (by kernel_rfl) i
def Zbsc (e:Nat) (c:Heap) (d:Value->Heap->Prop):Prop:=
 ∃g,c.cell ⟨e,5,none⟩=some (vP g)∧
 FnW wP Zib ⟨[(vP g)]⟩ c fun h a=>
 ∃b,h=vI vU b∧
 ∃f,a.cell ⟨e,9,none⟩=some (vB f)∧
 IfB f
 (d (vI vU (vW vU (b+1))) a)
 (d (vI vU b) a)
theorem Zclc (d:Nat) {a:Heap} {c:Value->Heap->Prop} (f:Zbsc d a fun g e=>∀b,Shut a e b->c g b):FnW wP Zig ⟨[(vP (some ⟨d,0,none⟩))]⟩ a c:=Zc Tryz.func133 ⟨[],[],[],[]⟩ (by kernel_rfl) (by kernel_rfl) f
def Zbcd (d:Nat) (c:Int) (a:Heap) (b:Value->Heap->Prop):Prop:=
 IfB (decide (((vW wI ((vW wI (0+1))+1)):Int)<2))
 ((0:Int) <= (vW wI ((vW wI (0+1))+1))∧((vW wI ((vW wI (0+1))+1)):Int)<2∧
 False)
 (b (vI wI c) a)
def Zth (b:Nat) (d:Int) (a:Heap) (c:Value->Heap->Prop):Prop:=
 IfB (decide (((vW wI (0+1)):Int)<2))
 ((0:Int) <= (vW wI (0+1))∧((vW wI (0+1)):Int)<2∧
 ∃f,a.cell ⟨b,0,none⟩=some (vI wI f)∧∃g,a.cell ⟨b,1,none⟩=some (vI wI g)∧∃h,a.cell ⟨b,2,none⟩=some (vI vU h)∧∃i,a.cell ⟨b,3,none⟩=some (vI vU i)∧∃j,a.cell ⟨b,4,none⟩=some (vI wI j)∧∃k,a.cell ⟨b,5,none⟩=some (vI wI k)∧∃l,a.cell ⟨b,6,none⟩=some (vI wI l)∧∃m,a.cell ⟨b,7,none⟩=some (vI wI m)∧∃n p o,a.cell ⟨b,8,none⟩=some (vS n p o)∧FnW wP Zjl ⟨[(vA ⟨[(vI wI f),(vI wI g),(vI vU h),(vI vU i),(vI wI j),(vI wI k),(vI wI l),(vI wI m),(vS n p o)]⟩),(vI wI 0)]⟩ a fun r e=>
 ∃q,r=vB q∧
 IfB q
 (Zbcd b (vW wI (d+1)) e c)
 (Zbcd b d e c))
 (c (vI wI d) a)
def Zbop (s t u v w x y z:Int) (A:Option Addr) (C B:Nat) (r:Heap) (d:Value->Heap->Prop):Prop:=
 NewW r (Obj.cells ⟨[(vI wI s),(vI wI t),(vI vU u),(vI vU v),(vI wI w),(vI wI x),(vI wI y),(vI wI z),(vS A C B)]⟩ Zm) fun b a=>
 ∃E c F,a.cell ⟨b,8,none⟩=some (vS E c F)∧
 IfB (decide ((0:Int)<2))
 ((0:Int) <= 0∧(0:Int)<2∧
 ∃f,a.cell ⟨b,0,none⟩=some (vI wI f)∧∃g,a.cell ⟨b,1,none⟩=some (vI wI g)∧∃h,a.cell ⟨b,2,none⟩=some (vI vU h)∧∃i,a.cell ⟨b,3,none⟩=some (vI vU i)∧∃j,a.cell ⟨b,4,none⟩=some (vI wI j)∧∃k,a.cell ⟨b,5,none⟩=some (vI wI k)∧∃l,a.cell ⟨b,6,none⟩=some (vI wI l)∧∃m,a.cell ⟨b,7,none⟩=some (vI wI m)∧∃n p o,a.cell ⟨b,8,none⟩=some (vS n p o)∧FnW wP Zjl ⟨[(vA ⟨[(vI wI f),(vI wI g),(vI vU h),(vI vU i),(vI wI j),(vI wI k),(vI wI l),(vI wI m),(vS n p o)]⟩),(vI wI 1)]⟩ a fun D e=>
 ∃q,D=vB q∧
 IfB q
 (Zth b (vW wI ((c:Int)+1)) e d)
 (Zth b (c:Int) e d))
 (d (vI wI (c:Int)) a)
theorem Zcio (d e f g h i j k:Int) (l:Option Addr) (n m:Nat) {a:Heap} {c:Value->Heap->Prop} (p:Zbop d e f g h i j k l n m a fun q o=>∀b,Shut a o b->c q b):FnW wP Zjt ⟨[(vA ⟨[(vI wI d),(vI wI e),(vI vU f),(vI vU g),(vI wI h),(vI wI i),(vI wI j),(vI wI k),(vS l n m)]⟩)]⟩ a c:=Zc Tryz.func134 ⟨[],[],[(3,3)],[]⟩ (by kernel_rfl) (by kernel_rfl) p
def Zblg (f:Nat) (g:Int) (a:Heap) (b:Value->Heap->Prop):Prop:=
 IfB (g==0)
 (∃c,a.cell ⟨f,4,none⟩=some (vP c)∧
 NilP c fun h=>
 ∃d,a.cell h=some (vP d)∧
 FnW wP Zlu ⟨[(vP d)]⟩ a fun i e=>
 i=vT ⟨[]⟩∧
 b (vB true) e)
 (b (vB true) a)
def Znd (d e:Nat) (a:Heap) (c:Value->Heap->Prop):Prop:=
 ∃b,a.cell ⟨e,5,none⟩=some (vI wI b)∧
 Zblg d b a c
def Zsd (a e:Nat) (b:Heap) (d:Value->Heap->Prop):Prop:=
 FnW wP Zxe ⟨[(vP (some ⟨a,0,none⟩))]⟩ b fun f c=>
 f=vT ⟨[]⟩∧
 Znd a e c d
def Zsc (a d:Nat) (f:Bool) (b:Heap) (c:Value->Heap->Prop):Prop:=
 IfB f
 (FnW wP Zlt ⟨[(vP (some ⟨a,0,none⟩))]⟩ b fun g e=>
 g=vT ⟨[]⟩∧
 Zsd a d e c)
 (Zsd a d b c)
def Zkt (d e:Nat) (y:Bool) (a:Heap) (g:Value->Heap->Prop):Prop:=
 IfB y
 (∃c:List Nat,(∀b∈c,∃h,a b=some h)∧
 d∈c∧∃o,a.cell ⟨d,4,none⟩=some (vP o)∧
 d∈c∧∃p,a.cell ⟨d,10,none⟩=some (vI wI p)∧
 ∃q,a.cell ⟨d,4,none⟩=some (vP q)∧
 e∈c∧∃s,a.cell ⟨e,5,none⟩=some (vI wI s)∧
 FnW wP Zjn ⟨[(vP q)]⟩ a fun z j=>
 ∃r,z=vI vU r∧
 Zb c a j∧FnW wP Zju ⟨[(vP o),(vI wI p),(vI vU r),(vI wI s)]⟩ j fun B f=>
 ∃t,∃A:Int,B=(vT ⟨[(vI wI t),(vI wI A)]⟩)∧
 Zb c a f∧IfB (decide (t>0))
 (Zsc d e true f g)
 (∃u,f.cell ⟨d,8,none⟩=some (vB u)∧
 Zsc d e (!u) f g))
 (∃c:List Nat,(∀b∈c,∃h,a b=some h)∧
 e∈c∧∃k,a.cell ⟨e,3,none⟩=some (vI vU k)∧
 ∃l,a.cell ⟨d,4,none⟩=some (vP l)∧
 FnW wP Zxg ⟨[(vP l)]⟩ a fun w i=>
 ∃m,w=vI vU m∧
 Zb c a i∧FnW wP Zxf ⟨[(vI vU k),(vI vU m)]⟩ i fun x v=>
 ∃n,x=vB n∧
 g (vB n) v)
def Zblh (a:Nat) (u v w x y z A B:Int) (C:Option Addr) (E D:Nat) (r:Heap) (f:Value->Heap->Prop):Prop:=
 NewW r (Obj.cells ⟨[(vI wI u),(vI wI v),(vI vU w),(vI vU x),(vI wI y),(vI wI z),(vI wI A),(vI wI B),(vS C E D)]⟩ Zm) fun d e=>
 ∃i,e.cell ⟨a,4,none⟩=some (vP i)∧
 ∃j,e.cell ⟨a,10,none⟩=some (vI wI j)∧
 ∃k,e.cell ⟨d,3,none⟩=some (vI vU k)∧
 ∃l,e.cell ⟨d,5,none⟩=some (vI wI l)∧
 FnW wP Zju ⟨[(vP i),(vI wI j),(vI vU k),(vI wI l)]⟩ e fun F c=>
 ∃m,∃n:Int,F=(vT ⟨[(vI wI m),(vI wI n)]⟩)∧
 IfB (n==0)
 (IfB (decide (m>0))
 (FnW wP Zlt ⟨[(vP (some ⟨a,0,none⟩))]⟩ c fun G s=>
 G=vT ⟨[]⟩∧
 Znd a d s f)
 (Znd a d c f))
 (∃g:List Nat,(∀b∈g,∃t,c b=some t)∧
 ∃o,c.cell ⟨a,7,none⟩=some (vB o)∧
 IfB o
 (d∈g∧∃p,c.cell ⟨d,3,none⟩=some (vI vU p)∧
 FnW wP Zpi ⟨[(vP (some ⟨a,0,none⟩))]⟩ c fun H h=>
 ∃q,H=vI vU q∧
 Zb g c h∧Zkt a d (p==q) h f)
 (Zkt a d false c f))
theorem Zcev (d:Nat) (e f g h i j k l:Int) (m:Option Addr) (o n:Nat) {a:Heap} {c:Value->Heap->Prop} (q:Zblh d e f g h i j k l m o n a fun r p=>∀b,Shut a p b->c r b):FnW wP Zwh ⟨[(vP (some ⟨d,0,none⟩)),(vA ⟨[(vI wI e),(vI wI f),(vI vU g),(vI vU h),(vI wI i),(vI wI j),(vI wI k),(vI wI l),(vS m o n)]⟩)]⟩ a c:=Zc Tryz.func135 ⟨[(2,[0,1,2,3,4,5,6,7,8],[24]),(6,[0,1,2,3,4,5,6,7,8,9,10,11,12],[46]),(7,[0,1,2,3,4,5,6,7,8,9,10,11,13,14,12,15,16,17,18,19],[55,59,66])],[],[],[]⟩ (by kernel_rfl) (by kernel_rfl) q
def Zss (c:Nat) (i:Bool) (e:Heap) (b:Value->Heap->Prop):Prop:=
 IfB i
 (b (vT ⟨[]⟩) e)
 (Za e ⟨c,9,none⟩ (vB true) fun a=>
 ∃d,a.cell ⟨c,0,none⟩=some (vI wI d)∧
 IfB (d==3)
 (Za a ⟨c,0,none⟩ (vI wI 6) fun g=>
 b (vT ⟨[]⟩) g)
 (IfB (d==4)
 (Za a ⟨c,0,none⟩ (vI wI 7) fun h=>
 b (vT ⟨[]⟩) h)
 (IfB (d==5)
 (FnW wP Zpk ⟨[(vP (some ⟨c,0,none⟩))]⟩ a fun j f=>
 j=vT ⟨[]⟩∧
 b (vT ⟨[]⟩) f)
 (b (vT ⟨[]⟩) a))))
def Zbnu (e c:Nat) (f:Heap) (i:Value->Heap->Prop):Prop:=
 ∃j,f.cell ⟨e,5,none⟩=some (vP j)∧
 ∃k,f.cell ⟨c,2,none⟩=some (vI vU k)∧
 ∃l n m,f.cell ⟨c,8,none⟩=some (vS l n m)∧
 FnW wP Zwg ⟨[(vP j),(vI vU k),(vS l n m)]⟩ f fun J a=>
 ∃H,∃I:Int,J=(vT ⟨[(vI wI H),(vI wI I)]⟩)∧
 ∃g:List Nat,(∀b∈g,∃G,a b=some G)∧
 ∃o,a.cell ⟨c,0,none⟩=some (vI wI o)∧∃p,a.cell ⟨c,1,none⟩=some (vI wI p)∧∃q,a.cell ⟨c,2,none⟩=some (vI vU q)∧∃r,a.cell ⟨c,3,none⟩=some (vI vU r)∧∃s,a.cell ⟨c,4,none⟩=some (vI wI s)∧∃t,a.cell ⟨c,5,none⟩=some (vI wI t)∧∃u,a.cell ⟨c,6,none⟩=some (vI wI u)∧∃v,a.cell ⟨c,7,none⟩=some (vI wI v)∧∃w y x,a.cell ⟨c,8,none⟩=some (vS w y x)∧FnW wP Zcn ⟨[(vA ⟨[(vI wI o),(vI wI p),(vI vU q),(vI vU r),(vI wI s),(vI wI t),(vI wI u),(vI wI v),(vS w y x)]⟩),(vI wI 1)]⟩ a fun K d=>
 ∃z,K=vB z∧
 Zb g a d∧IfB (!z)
 (Zss e true d i)
 (∃A,d.cell ⟨c,2,none⟩=some (vI vU A)∧
 ∃L B M,d.cell ⟨c,8,none⟩=some (vS L B M)∧
 e∈g∧∃D,a.cell ⟨e,5,none⟩=some (vP D)∧
 FnW wP Zdl ⟨[(vI vU A),(vI wI (B:Int))]⟩ d fun N h=>
 ∃C,N=vI vU C∧
 Zb g a h∧FnW wP Zib ⟨[(vP D)]⟩ h fun O F=>
 ∃E,O=vI vU E∧
 Zss e (C !=E) F i)
def Ziv (c d:Nat) (e:Bool) (a:Heap) (b:Value->Heap->Prop):Prop:=
 IfB e
 (Zbnu c d a b)
 (b (vT ⟨[]⟩) a)
def Zbnv (c:Nat) (g h i j k l m n:Int) (o:Option Addr) (q p:Nat) (f:Heap) (d:Value->Heap->Prop):Prop:=
 NewW f (Obj.cells ⟨[(vI wI g),(vI wI h),(vI vU i),(vI vU j),(vI wI k),(vI wI l),(vI wI m),(vI wI n),(vS o q p)]⟩ Zm) fun e b=>
 ∃a,b.cell ⟨c,0,none⟩=some (vI wI a)∧
 IfB (a==3)
 (Ziv c e (a==3) b d)
 (IfB (a==4)
 (Ziv c e (a==4) b d)
 (Ziv c e (a==5) b d))
theorem Zchz (d:Nat) (e f g h i j k l:Int) (m:Option Addr) (o n:Nat) {a:Heap} {c:Value->Heap->Prop} (q:Zbnv d e f g h i j k l m o n a fun r p=>∀b,Shut a p b->c r b):FnW wP Zxo ⟨[(vP (some ⟨d,0,none⟩)),(vA ⟨[(vI wI e),(vI wI f),(vI vU g),(vI vU h),(vI wI i),(vI wI j),(vI wI k),(vI wI l),(vS m o n)]⟩)]⟩ a c:=Zc Tryz.func136 ⟨[(6,[0,1,2,3,4,5,6,7,8,10,11,12,13,9,14,15,16],[34])],[],[],[]⟩ (by kernel_rfl) (by kernel_rfl) q
def Zbkj (h i j k l m n o:Int) (p:Option Addr) (r q:Nat) (c:Int) (g:Heap) (b:Value->Heap->Prop):Prop:=
 NewW g (Obj.cells ⟨[(vI wI h),(vI wI i),(vI vU j),(vI vU k),(vI wI l),(vI wI m),(vI wI n),(vI wI o),(vS p r q)]⟩ Zm) fun d a=>
 ∃f,a.cell ⟨d,4,none⟩=some (vI wI f)∧
 IfB (decide (f≥0))
 (∃e,a.cell ⟨d,4,none⟩=some (vI wI e)∧
 (0:Int) <= c∧
 b (vB (((Zbc wI (Int.fdiv e (2^(min c.toNat (wB wI)))) 1):Int)==1)) a)
 (b (vB false) a)
theorem Zcdz (e f g h i j k l:Int) (m:Option Addr) (o n:Nat) (d:Int) {a:Heap} {c:Value->Heap->Prop} (q:Zbkj e f g h i j k l m o n d a fun r p=>∀b,Shut a p b->c r b):FnW wP Zjl ⟨[(vA ⟨[(vI wI e),(vI wI f),(vI vU g),(vI vU h),(vI wI i),(vI wI j),(vI wI k),(vI wI l),(vS m o n)]⟩),(vI wI d)]⟩ a c:=Zc Tryz.func137 ⟨[],[],[],[]⟩ (by kernel_rfl) (by kernel_rfl) q
def Zbqg (d:Nat) (a:Heap) (c:Value->Heap->Prop):Prop:=
 ∃b,a.cell ⟨d,0,none⟩=some (vP b)∧
 c (vB (!b.isNone)) a
theorem Zcjw (d:Nat) {a:Heap} {c:Value->Heap->Prop} (f:Zbqg d a fun g e=>∀b,Shut a e b->c g b):FnW wP Zfk ⟨[(vP (some ⟨d,0,none⟩))]⟩ a c:=Zc Tryz.func150 ⟨[],[],[],[]⟩ (by kernel_rfl) (by kernel_rfl) f
def Zbmv (b:Nat) (q:Int) (o:Heap) (d:Value->Heap->Prop):Prop:=
 FnW wP Zxj ⟨[(vP (some ⟨b,0,none⟩)),(vI wI q)]⟩ o fun r a=>
 ∃c,r=vI wI c∧
 IfB (c !=0)
 (d (vT ⟨[(vI vU 0),(vS none 0 0),(vI wI c)]⟩) a)
 (∃e,a.cell ⟨b,9,none⟩=some (vI wI e)∧
 ∃s f t,a.cell ⟨b,5,none⟩=some (vS s f t)∧
 ∃g,a.cell ⟨b,6,none⟩=some (vI wI g)∧
 ∃h,a.cell ⟨b,8,none⟩=some (vI wI h)∧
 ∃i,a.cell ⟨b,6,none⟩=some (vI wI i)∧
 FnW wP Zps ⟨[(vP (some ⟨b,0,none⟩)),(vI wI (min (min e (vW wI ((f:Int) - g))) (vW wI (h - i))))]⟩ a fun u p=>
 ∃j,∃(k:Option Addr) (m l:Nat),∃n:Int,u=(vT ⟨[(vI vU j),(vS k m l),(vI wI n)]⟩)∧
 d (vT ⟨[(vI vU j),(vS k m l),(vI wI n)]⟩) p)
theorem Zcgw (e:Nat) (d:Int) {a:Heap} {c:Value->Heap->Prop} (g:Zbmv e d a fun h f=>∀b,Shut a f b->c h b):FnW wP Zwz ⟨[(vP (some ⟨e,0,none⟩)),(vI wI d)]⟩ a c:=Zc Tryz.func152 ⟨[],[],[],[]⟩ (by kernel_rfl) (by kernel_rfl) g
def Zblz (c:Nat) (f:Heap) (b:Value->Heap->Prop):Prop:=
 FnW wP Zfk ⟨[(vP (some ⟨c,0,none⟩))]⟩ f fun g a=>
 ∃d,g=vB d∧
 IfB (!d)
 (b (vI wI 0) a)
 (∃e,a.cell ⟨c,6,none⟩=some (vI wI e)∧
 b (vI wI e) a)
theorem Zcfs (d:Nat) {a:Heap} {c:Value->Heap->Prop} (f:Zblz d a fun g e=>∀b,Shut a e b->c g b):FnW wP Zpf ⟨[(vP (some ⟨d,0,none⟩))]⟩ a c:=Zc Tryz.func153 ⟨[],[],[],[]⟩ (by kernel_rfl) (by kernel_rfl) f
def Zbma (c:Nat) (f:Heap) (b:Value->Heap->Prop):Prop:=
 FnW wP Zfk ⟨[(vP (some ⟨c,0,none⟩))]⟩ f fun g a=>
 ∃d,g=vB d∧
 IfB (!d)
 (b (vI wI 0) a)
 (∃h e i,a.cell ⟨c,5,none⟩=some (vS h e i)∧
 b (vI wI (e:Int)) a)
theorem Zcft (d:Nat) {a:Heap} {c:Value->Heap->Prop} (f:Zbma d a fun g e=>∀b,Shut a e b->c g b):FnW wP Zpg ⟨[(vP (some ⟨d,0,none⟩))]⟩ a c:=Zc Tryz.func154 ⟨[],[],[],[]⟩ (by kernel_rfl) (by kernel_rfl) f
def Zbmw (b:Nat) (a:Heap) (g:Value->Heap->Prop):Prop:=
 ∃c,a.cell ⟨b,4,none⟩=some (vP c)∧
 FnW wP Zjn ⟨[(vP c)]⟩ a fun h e=>
 ∃d,h=vI vU d∧
 FnW wP Zif ⟨[(vP (some ⟨b,0,none⟩)),(vI vU d),(vI wI 17),(vS none 0 0)]⟩ e fun j f=>
 ∃i,j=vP i∧
 g (vT ⟨[]⟩) f
theorem Zcgx (d:Nat) {a:Heap} {c:Value->Heap->Prop} (f:Zbmw d a fun g e=>∀b,Shut a e b->c g b):FnW wP Zxa ⟨[(vP (some ⟨d,0,none⟩))]⟩ a c:=Zc Tryz.func155 ⟨[],[],[],[]⟩ (by kernel_rfl) (by kernel_rfl) f
def Zze:Plan:=⟨[],[],[],[]⟩
theorem Zbfd:Known wP Zez Tryz.f156 Zze (Zbw Tryz.f156):=by refine ⟨Tryz.func156,?_,?_,?_,?_,?_⟩<;>kernel_rfl
def Zbbu (d:Nat) (a:Heap) (c:Value->Heap->Prop):Prop:=
 ∃b f e,a.cell ⟨d,2,none⟩=some (vS b f e)∧
 c (vB (!b.isNone)) a
theorem Zcfh (c:Nat) (a:Heap) (b:Value->Heap->Prop):Zbbu c a b=Ze wP Zze (Zbw Tryz.f156) (env0 [(vP (some ⟨c,0,none⟩))]) a (RetW wP Tryz.f156.results.toList b):=by kernel_rfl
theorem Zcfk (b:Nat) {a:Heap} {d:Value->Heap->Prop} (f:Zbbu b a fun g e=>∀c,Shut a e c->d g c):FnW wP Zez ⟨[(vP (some ⟨b,0,none⟩))]⟩ a d:=FnW.of_code Zbfd (by kernel_rfl) (Eq.mp (Zcfh b a _) f)
def Zbbt (a:Heap) (b:Value->Heap->Prop):Prop:=
 b (vB false) a
theorem Zcfi (a:Heap) (b:Value->Heap->Prop):Zbbt a b=Ze wP Zze (Zbw Tryz.f156) (env0 [(vP none)]) a (RetW wP Tryz.f156.results.toList b):=by kernel_rfl
theorem Zcfj {a:Heap} {c:Value->Heap->Prop} (e:Zbbt a fun f d=>∀b,Shut a d b->c f b):FnW wP Zez ⟨[(vP none)]⟩ a c:=FnW.of_code Zbfd (by kernel_rfl) (Eq.mp (Zcfi a _) e)
def Zbmb (c:Option Addr) (j i:Nat) (a:Heap) (b:Value->Heap->Prop):Prop:=
 IfB c.isNone
 (b (vS none 0 0) a)
 (NewW a (Obj.cells ⟨[]⟩ Zh) fun k g=>
 AppW wP #[Zd,Zd] Zd [(vS (some ⟨k,0,none⟩) 0 0),(vS c j i)] g fun l h=>
 ∃d f e,l=vS d f e∧
 b (vS d f e) h)
theorem Zcfu (d:Option Addr) (f e:Nat) {a:Heap} {c:Value->Heap->Prop} (h:Zbmb d f e a fun i g=>∀b,Shut a g b->c i b):FnW wP Zph ⟨[(vS d f e)]⟩ a c:=Zc Tryz.func157 ⟨[],[],[],[]⟩ (by kernel_rfl) (by kernel_rfl) h
def Zbmd (e:Nat) (c:Heap) (d:Value->Heap->Prop):Prop:=
 ∃g,c.cell ⟨e,4,none⟩=some (vP g)∧
 FnW wP Zjn ⟨[(vP g)]⟩ c fun h a=>
 ∃b,h=vI vU b∧
 ∃f,a.cell ⟨e,7,none⟩=some (vB f)∧
 IfB f
 (d (vI vU (vW vU (b+1))) a)
 (d (vI vU b) a)
theorem Zcge (d:Nat) {a:Heap} {c:Value->Heap->Prop} (f:Zbmd d a fun g e=>∀b,Shut a e b->c g b):FnW wP Zpi ⟨[(vP (some ⟨d,0,none⟩))]⟩ a c:=Zc Tryz.func158 ⟨[],[],[],[]⟩ (by kernel_rfl) (by kernel_rfl) f
def Zbci (a:Int) (b:Heap) (d:(Int×Unit)->Heap->Prop) (c:Value->Heap->Prop):Prop:=
 IfB (decide (a>65535))
 ((0:Int) <= 16∧
 d ((vW vU ((Zbc vU a 65535)+(Int.fdiv a (2^(min (16:Int).toNat (wB vU)))))),()) b)
 (c (vI vU a) b)
def Zbcj (c:Int) (a:Heap) (b:Value->Heap->Prop):Prop:=
 Zbe (Int×Unit) (c,()) a fun e a d=>∀f:Env,Zbci e.1 a d b
theorem Zbph (d:Int) {a:Heap} {c:Value->Heap->Prop} (f:Zbcj d a fun g e=>∀b,Shut a e b->c g b):FnW wP Zdf ⟨[(vI vU d)]⟩ a c:=Zc Tryz.func159 ⟨[],[(2000000,[0],[.int vU],[])],[],[]⟩ (by kernel_rfl) (by kernel_rfl) f
def Zup (h g i f:Int) (j:Bool) (a:Heap) (b:Value->Heap->Prop):Prop:=
 IfB j
 (b (vT ⟨[(vP none),(vI wI 2)]⟩) a)
 (FnW wP Zwa ⟨[]⟩ a fun k d=>
 ∃c,k=vP c∧
 NewW d (Obj.cells ⟨[(vP c),(vB false),(vI vU 0),(vI wI 0),(vI vU h),(vS none 0 0),(vI wI 0),(vI wI g),(vI wI i),(vI wI f),(vI wI 0)]⟩ Zgs) fun l e=>
 b (vT ⟨[(vP (some ⟨l,0,none⟩)),(vI wI 0)]⟩) e)
def Zbrd (e b c a:Int) (k:Heap) (d:Value->Heap->Prop):Prop:=
 FnW wP Zjp ⟨[(vI wI b),(vI wI 1)]⟩ k fun m f=>
 ∃h,m=vB h∧
 IfB (!h)
 (Zup e b c a true f d)
 (FnW wP Zjp ⟨[(vI wI c),(vI wI 0)]⟩ f fun n g=>
 ∃i,n=vB i∧
 IfB (!i)
 (Zup e b c a true g d)
 (FnW wP Zjp ⟨[(vI wI a),(vI wI 1)]⟩ g fun o l=>
 ∃j,o=vB j∧
 Zup e b c a (!j) l d))
theorem Zckp (f e g d:Int) {a:Heap} {c:Value->Heap->Prop} (i:Zbrd f e g d a fun j h=>∀b,Shut a h b->c j b):FnW wP Zym ⟨[(vI vU f),(vI wI e),(vI wI g),(vI wI d)]⟩ a c:=Zc Tryz.func163 ⟨[],[],[],[]⟩ (by kernel_rfl) (by kernel_rfl) i
def Zbmx (c:Nat) (a:Heap) (b:Value->Heap->Prop):Prop:=
 ∃f,a.cell ⟨c,5,none⟩=some (vP f)∧
 IfB f.isNone
 (b (vI wI 4096) a)
 (∃d,a.cell ⟨c,5,none⟩=some (vP d)∧
 FnW wP Zlq ⟨[(vP d)]⟩ a fun h g=>
 ∃e,h=vI wI e∧
 b (vI wI e) g)
theorem Zcgy (d:Nat) {a:Heap} {c:Value->Heap->Prop} (f:Zbmx d a fun g e=>∀b,Shut a e b->c g b):FnW wP Zxb ⟨[(vP (some ⟨d,0,none⟩))]⟩ a c:=Zc Tryz.func164 ⟨[],[],[],[]⟩ (by kernel_rfl) (by kernel_rfl) f
def Zbmz (c:Nat) (f:Heap) (b:Value->Heap->Prop):Prop:=
 FnW wP Zfk ⟨[(vP (some ⟨c,0,none⟩))]⟩ f fun g a=>
 ∃d,g=vB d∧
 IfB (!d)
 (b (vI wI 0) a)
 (∃e,a.cell ⟨c,8,none⟩=some (vI wI e)∧
 b (vI wI e) a)
theorem Zcha (d:Nat) {a:Heap} {c:Value->Heap->Prop} (f:Zbmz d a fun g e=>∀b,Shut a e b->c g b):FnW wP Zxc ⟨[(vP (some ⟨d,0,none⟩))]⟩ a c:=Zc Tryz.func165 ⟨[],[],[],[]⟩ (by kernel_rfl) (by kernel_rfl) f
def Zst (b d:Int) (e:(Int×Int×Unit)->Heap->Prop) (f:Bool) (a:Heap) (c:Value->Heap->Prop):Prop:=
 IfB f
 (e ((vW wI (b*2)),((vW wI (d - 1)),())) a)
 (c (vI wI (max 5 (min 600 b))) a)
def Zbnw (b a:Int) (c:Heap) (e:(Int×Int×Unit)->Heap->Prop) (d:Value->Heap->Prop):Prop:=
 IfB (decide (a>0))
 (Zst b a e (decide (b<600)) c d)
 (Zst b a e false c d)
def Zsu (b d:Int) (e:(Int×Int×Unit)->Heap->Prop) (f:Bool) (a:Heap) (c:Value->Heap->Prop):Prop:=
 IfB f
 (e ((vW wI (b*2)),((vW wI (d - 1)),())) a)
 (c (vI wI (max 5 (min 600 b))) a)
def Zbnx (b a:Int) (c:Heap) (e:(Int×Int×Unit)->Heap->Prop) (d:Value->Heap->Prop):Prop:=
 IfB (decide (a>0))
 (Zsu b a e (decide (b<600)) c d)
 (Zsu b a e false c d)
def Zbny (c:Nat) (b:Heap) (e:Value->Heap->Prop):Prop:=
 FnW wP Zlv ⟨[(vP (some ⟨c,0,none⟩))]⟩ b fun m a=>
 ∃k,m=vB k∧
 IfB (!k)
 (e (vI wI 0) a)
 (∃g,a.cell ⟨c,2,none⟩=some (vI wI g)∧
 ∃h,a.cell ⟨c,3,none⟩=some (vB h)∧
 IfB h
 (∃i,a.cell ⟨c,0,none⟩=some (vI wI i)∧
 (8:Int)≠0∧
 ∃j,a.cell ⟨c,1,none⟩=some (vI wI j)∧
 Zbe (Int×Int×Unit) ((vW wI ((vW wI (Int.tdiv i 8))+(max 1 j))),(g,())) a fun d b f=>∀l:Env,Zbnw d.1 d.2.1 b f e)
 (Zbe (Int×Int×Unit) (30,(g,())) a fun d b f=>∀l:Env,Zbnx d.1 d.2.1 b f e))
theorem Zcia (d:Nat) {a:Heap} {c:Value->Heap->Prop} (f:Zbny d a fun g e=>∀b,Shut a e b->c g b):FnW wP Zxp ⟨[(vP (some ⟨d,0,none⟩))]⟩ a c:=Zc Tryz.func166 ⟨[],[(2000000,[3,4],[.int wI,.int wI],[])],[],[]⟩ (by kernel_rfl) (by kernel_rfl) f
def Zbme (d:Nat) (a:Heap) (c:Value->Heap->Prop):Prop:=
 Za a ⟨d,0,none⟩ (vI wI 0) fun b=>
 c (vT ⟨[]⟩) b
theorem Zcgf (d:Nat) {a:Heap} {c:Value->Heap->Prop} (f:Zbme d a fun g e=>∀b,Shut a e b->c g b):FnW wP Zpj ⟨[(vP (some ⟨d,0,none⟩))]⟩ a c:=Zc Tryz.func167 ⟨[],[],[],[]⟩ (by kernel_rfl) (by kernel_rfl) f
def Zbbn (m a:Int) (n:Bool) (b:Heap) (c:Value->Heap->Prop):Prop:=
 IfB n
 (c (vT ⟨[(vP none),(vI wI 2)]⟩) b)
 (Zcw wP Zd (vI wI a) (vI wI a) b fun o j=>
 ∃d f e,o=vS d f e∧
 Zcw wP Zbsm (vI wI a) (vI wI a) j fun p k=>
 ∃g i h,p=vS g i h∧
 NewW k (Obj.cells ⟨[(vI vU m),(vI wI 0),(vS d f e),(vS g i h),(vI wI 0),(vS none 0 0)]⟩ Zhr) fun q l=>
 c (vT ⟨[(vP (some ⟨q,0,none⟩)),(vI wI 0)]⟩) l)
def Zbjt (d a:Int) (b:Heap) (c:Value->Heap->Prop):Prop:=
 IfB (decide (a<1))
 (Zbbn d a true b c)
 (Zbbn d a (decide (a>65535)) b c)
theorem Zcdq (d e:Int) {a:Heap} {c:Value->Heap->Prop} (g:Zbjt d e a fun h f=>∀b,Shut a f b->c h b):FnW wP Zwc ⟨[(vI vU d),(vI wI e)]⟩ a c:=Zc Tryz.func168 ⟨[],[],[],[]⟩ (by kernel_rfl) (by kernel_rfl) g
def Zbna (g h i j k l m n:Int) (o:Option Addr) (q p:Nat) (f:Heap) (b:Value->Heap->Prop):Prop:=
 NewW f (Obj.cells ⟨[(vI wI g),(vI wI h),(vI vU i),(vI vU j),(vI wI k),(vI wI l),(vI wI m),(vI wI n),(vS o q p)]⟩ Zm) fun c a=>
 ∃d,a.cell ⟨c,7,none⟩=some (vI wI d)∧
 IfB (d==0)
 (b (vI wI 536) a)
 (∃e,a.cell ⟨c,7,none⟩=some (vI wI e)∧
 b (vI wI (min e 1460)) a)
theorem Zchb (d e f g h i j k:Int) (l:Option Addr) (n m:Nat) {a:Heap} {c:Value->Heap->Prop} (p:Zbna d e f g h i j k l n m a fun q o=>∀b,Shut a o b->c q b):FnW wP Zxd ⟨[(vA ⟨[(vI wI d),(vI wI e),(vI vU f),(vI vU g),(vI wI h),(vI wI i),(vI wI j),(vI wI k),(vS l n m)]⟩)]⟩ a c:=Zc Tryz.func169 ⟨[],[],[],[]⟩ (by kernel_rfl) (by kernel_rfl) p
def Zbld (b:Nat) (e:Heap) (g:Value->Heap->Prop):Prop:=
 Za e ⟨b,11,none⟩ (vI wI (-1)) fun a=>
 ∃d,a.cell ⟨b,4,none⟩=some (vP d)∧
 NilP d fun i=>
 ∃c,a.cell i=some (vP c)∧
 FnW wP Zlu ⟨[(vP c)]⟩ a fun h f=>
 h=vT ⟨[]⟩∧
 g (vT ⟨[]⟩) f
theorem Zcer (d:Nat) {a:Heap} {c:Value->Heap->Prop} (f:Zbld d a fun g e=>∀b,Shut a e b->c g b):FnW wP Zlt ⟨[(vP (some ⟨d,0,none⟩))]⟩ a c:=Zc Tryz.func170 ⟨[],[],[],[]⟩ (by kernel_rfl) (by kernel_rfl) f
def Znm (c:Nat) (h i a:Int) (j:Bool) (d:Heap) (b:Value->Heap->Prop):Prop:=
 IfB j
 (b (vT ⟨[(vI wI 0),(vI wI 2)]⟩) d)
 (Za d ⟨c,10,none⟩ (vI wI h) fun f=>
 Za f ⟨c,8,none⟩ (vI wI i) fun e=>
 IfB (decide (((vW wI a):Int)>0))
 (FnW wP Zxx ⟨[(vP (some ⟨c,0,none⟩)),(vI wI (vW wI a))]⟩ e fun k g=>
 k=vT ⟨[]⟩∧
 b (vT ⟨[(vI wI (vW wI a)),(vI wI 0)]⟩) g)
 (b (vT ⟨[(vI wI (vW wI a)),(vI wI 0)]⟩) e))
def Zbpi (a:Nat) (e o f:Int) (m:Heap) (d:Value->Heap->Prop):Prop:=
 FnW wP Zfk ⟨[(vP (some ⟨a,0,none⟩))]⟩ m fun p g=>
 ∃h,p=vB h∧
 IfB (!h)
 (d (vT ⟨[(vI wI 0),(vI wI 1)]⟩) g)
 (∃i,g.cell ⟨a,4,none⟩=some (vI vU i)∧
 FnW wP Zgb ⟨[(vI vU i),(vI vU o)]⟩ g fun q b=>
 ∃c,q=vI vU c∧
 ∃j,b.cell ⟨a,10,none⟩=some (vI wI j)∧
 IfB (decide (e<j))
 (Znm a e f c true b d)
 (∃k,b.cell ⟨a,6,none⟩=some (vI wI k)∧
 IfB (decide (((vW wI c):Int)>k))
 (Znm a e f c true b d)
 (FnW wP Zjp ⟨[(vI wI f),(vI wI 0)]⟩ b fun r n=>
 ∃l,r=vB l∧
 Znm a e f c (!l) n d)))
theorem Zcjc (f:Nat) (e d g:Int) {a:Heap} {c:Value->Heap->Prop} (i:Zbpi f e d g a fun j h=>∀b,Shut a h b->c j b):FnW wP Zju ⟨[(vP (some ⟨f,0,none⟩)),(vI wI e),(vI vU d),(vI wI g)]⟩ a c:=Zc Tryz.func171 ⟨[],[],[],[]⟩ (by kernel_rfl) (by kernel_rfl) i
def Zbju (f c:Int) (e:Heap) (b:Value->Heap->Prop):Prop:=
 FnW wP Zoo ⟨[(vI wI f)]⟩ e fun g a=>
 ∃d,g=vB d∧
 IfB d
 (IfB (decide (c≥0))
 (b (vB (decide (c <= 1073741824))) a)
 (b (vB false) a))
 (b (vB false) a)
theorem Zcdr (e d:Int) {a:Heap} {c:Value->Heap->Prop} (g:Zbju e d a fun h f=>∀b,Shut a f b->c h b):FnW wP Zon ⟨[(vI wI e),(vI wI d)]⟩ a c:=Zc Tryz.func172 ⟨[],[],[],[]⟩ (by kernel_rfl) (by kernel_rfl) g
def Zbqt (h i c:Int) (f:Heap) (b:Value->Heap->Prop):Prop:=
 FnW wP Zoo ⟨[(vI wI c)]⟩ f fun k a=>
 ∃e,k=vB e∧
 IfB e
 (FnW wP Zgb ⟨[(vI vU i),(vI vU h)]⟩ a fun j g=>
 ∃d,j=vI vU d∧
 b (vB (decide (d<(vW vU c)))) g)
 (b (vB false) a)
theorem Zckg (d e f:Int) {a:Heap} {c:Value->Heap->Prop} (h:Zbqt d e f a fun i g=>∀b,Shut a g b->c i b):FnW wP Zme ⟨[(vI vU d),(vI vU e),(vI wI f)]⟩ a c:=Zc Tryz.func173 ⟨[],[],[],[]⟩ (by kernel_rfl) (by kernel_rfl) h
def Zzf:Plan:=⟨[],[],[],[]⟩
theorem Zbfe:Known wP Zib Tryz.f174 Zzf (Zbw Tryz.f174):=by refine ⟨Tryz.func174,?_,?_,?_,?_,?_⟩<;>kernel_rfl
def Zbbx (c:Nat) (f:Heap) (b:Value->Heap->Prop):Prop:=
 FnW wP Zez ⟨[(vP (some ⟨c,0,none⟩))]⟩ f fun g a=>
 ∃d,g=vB d∧
 IfB (!d)
 (b (vI vU 0) a)
 (∃e,a.cell ⟨c,0,none⟩=some (vI vU e)∧
 b (vI vU e) a)
theorem Zchl (c:Nat) (a:Heap) (b:Value->Heap->Prop):Zbbx c a b=Ze wP Zzf (Zbw Tryz.f174) (env0 [(vP (some ⟨c,0,none⟩))]) a (RetW wP Tryz.f174.results.toList b):=by kernel_rfl
theorem Zcho (b:Nat) {a:Heap} {d:Value->Heap->Prop} (f:Zbbx b a fun g e=>∀c,Shut a e c->d g c):FnW wP Zib ⟨[(vP (some ⟨b,0,none⟩))]⟩ a d:=FnW.of_code Zbfe (by kernel_rfl) (Eq.mp (Zchl b a _) f)
def Zbbw (b:Heap) (d:Value->Heap->Prop):Prop:=
 FnW wP Zez ⟨[(vP none)]⟩ b fun e c=>
 ∃a,e=vB a∧
 IfB (!a)
 (d (vI vU 0) c)
 (False)
theorem Zchm (a:Heap) (b:Value->Heap->Prop):Zbbw a b=Ze wP Zzf (Zbw Tryz.f174) (env0 [(vP none)]) a (RetW wP Tryz.f174.results.toList b):=by kernel_rfl
theorem Zchn {a:Heap} {c:Value->Heap->Prop} (e:Zbbw a fun f d=>∀b,Shut a d b->c f b):FnW wP Zib ⟨[(vP none)]⟩ a c:=FnW.of_code Zbfe (by kernel_rfl) (Eq.mp (Zchm a _) e)
def Zbkn (b:Nat) (h:Heap) (c:Value->Heap->Prop):Prop:=
 FnW wP Zfk ⟨[(vP (some ⟨b,0,none⟩))]⟩ h fun k a=>
 ∃f,k=vB f∧
 IfB (!f)
 (c (vI vU 0) a)
 (∃g,a.cell ⟨b,4,none⟩=some (vI vU g)∧
 ∃d,a.cell ⟨b,6,none⟩=some (vI wI d)∧
 FnW wP Zdl ⟨[(vI vU g),(vI wI d)]⟩ a fun j i=>
 ∃e,j=vI vU e∧
 c (vI vU e) i)
theorem Zcec (d:Nat) {a:Heap} {c:Value->Heap->Prop} (f:Zbkn d a fun g e=>∀b,Shut a e b->c g b):FnW wP Zjn ⟨[(vP (some ⟨d,0,none⟩))]⟩ a c:=Zc Tryz.func175 ⟨[],[],[],[]⟩ (by kernel_rfl) (by kernel_rfl) f
def Zbnb (a:Nat) (e:Heap) (c:Value->Heap->Prop):Prop:=
 ∃f,e.cell ⟨a,8,none⟩=some (vB f)∧
 IfB f
 (c (vT ⟨[]⟩) e)
 (Za e ⟨a,8,none⟩ (vB true) fun b=>
 ∃d,b.cell ⟨a,0,none⟩=some (vI wI d)∧
 IfB (d==4)
 (Za b ⟨a,0,none⟩ (vI wI 5) fun g=>
 c (vT ⟨[]⟩) g)
 (IfB (d==7)
 (FnW wP Zpk ⟨[(vP (some ⟨a,0,none⟩))]⟩ b fun j h=>
 j=vT ⟨[]⟩∧
 c (vT ⟨[]⟩) h)
 (IfB (d==8)
 (FnW wP Zpj ⟨[(vP (some ⟨a,0,none⟩))]⟩ b fun k i=>
 k=vT ⟨[]⟩∧
 c (vT ⟨[]⟩) i)
 (c (vT ⟨[]⟩) b))))
theorem Zchc (d:Nat) {a:Heap} {c:Value->Heap->Prop} (f:Zbnb d a fun g e=>∀b,Shut a e b->c g b):FnW wP Zxe ⟨[(vP (some ⟨d,0,none⟩))]⟩ a c:=Zc Tryz.func176 ⟨[],[],[],[]⟩ (by kernel_rfl) (by kernel_rfl) f
def Zbnc (e f:Int) (b:Heap) (d:Value->Heap->Prop):Prop:=
 FnW wP Zgb ⟨[(vI vU e),(vI vU f)]⟩ b fun g c=>
 ∃a,g=vI vU a∧
 d (vB (decide (((vW vU (a - 1)):Int)<2147483647))) c
theorem Zchd (d e:Int) {a:Heap} {c:Value->Heap->Prop} (g:Zbnc d e a fun h f=>∀b,Shut a f b->c h b):FnW wP Zxf ⟨[(vI vU d),(vI vU e)]⟩ a c:=Zc Tryz.func177 ⟨[],[],[],[]⟩ (by kernel_rfl) (by kernel_rfl) g
def Zbnd (c:Nat) (f:Heap) (b:Value->Heap->Prop):Prop:=
 FnW wP Zfk ⟨[(vP (some ⟨c,0,none⟩))]⟩ f fun g a=>
 ∃d,g=vB d∧
 IfB (!d)
 (b (vI vU 0) a)
 (∃e,a.cell ⟨c,4,none⟩=some (vI vU e)∧
 b (vI vU e) a)
theorem Zche (d:Nat) {a:Heap} {c:Value->Heap->Prop} (f:Zbnd d a fun g e=>∀b,Shut a e b->c g b):FnW wP Zxg ⟨[(vP (some ⟨d,0,none⟩))]⟩ a c:=Zc Tryz.func178 ⟨[],[],[],[]⟩ (by kernel_rfl) (by kernel_rfl) f
def Zble (c:Nat) (e:Heap) (b:Value->Heap->Prop):Prop:=
 FnW wP Zlv ⟨[(vP (some ⟨c,0,none⟩))]⟩ e fun g a=>
 ∃d,g=vB d∧
 IfB d
 (Za a ⟨c,2,none⟩ (vI wI 0) fun f=>
 b (vT ⟨[]⟩) f)
 (b (vT ⟨[]⟩) a)
theorem Zces (d:Nat) {a:Heap} {c:Value->Heap->Prop} (f:Zble d a fun g e=>∀b,Shut a e b->c g b):FnW wP Zlu ⟨[(vP (some ⟨d,0,none⟩))]⟩ a c:=Zc Tryz.func179 ⟨[],[],[],[]⟩ (by kernel_rfl) (by kernel_rfl) f
def Zbko (c:Nat) (i:Option Addr) (j t:Nat) (l n m a:Int) (b:Heap) (k:(Int×Unit)->Heap->Prop) (h:Value->Heap->Prop):Prop:=
 IfB (decide (a<m))
 (NilP i fun q=>
 InB (vW wI (l+a)) j fun o=>
 elemAt q o 1 fun p=>
 ∃d,b.cell p=some (vI wU d)∧
 FnW wP Zxk ⟨[(vP (some ⟨c,0,none⟩)),(vI wI (vW wI ((vW wI n)+a))),(vI wU d)]⟩ b fun r f=>
 r=vT ⟨[]⟩∧
 k ((vW wI (a+1)),()) f)
 (FnW wP Zyn ⟨[(vP (some ⟨c,0,none⟩))]⟩ b fun s g=>
 ∃e,s=vI wI e∧
 h (vT ⟨[(vI wI e),(vI wI 0)]⟩) g)
def Zbkp (d:Nat) (n:Int) (w:Option Addr) (h x:Nat) (g:Heap) (f:Value->Heap->Prop):Prop:=
 FnW wP Zez ⟨[(vP (some ⟨d,0,none⟩))]⟩ g fun A c=>
 ∃o,A=vB o∧
 IfB (!o)
 (f (vT ⟨[(vI wI 0),(vI wI 1)]⟩) c)
 (IfB (decide (((h:Int):Int)>65536))
 (f (vT ⟨[(vI wI 0),(vI wI 3)]⟩) c)
 (∃a:List Nat,(∀b∈a,∃i,c b=some i)∧
 d∈a∧∃p,c.cell ⟨d,0,none⟩=some (vI vU p)∧
 FnW wP Zlq ⟨[(vP (some ⟨d,0,none⟩))]⟩ c fun B l=>
 ∃q,B=vI wI q∧
 Zb a c l∧FnW wP Zyh ⟨[(vI vU p),(vI wI q),(vI vU n),(vI wI (h:Int))]⟩ l fun C e=>
 ∃j,∃r:Int,∃k:Int,C=(vT ⟨[(vI wI j),(vI wI r),(vI wI k)]⟩)∧
 Zb a c e∧IfB (k !=0)
 (f (vT ⟨[(vI wI 0),(vI wI k)]⟩) e)
 (∃a:List Nat,(∀b∈a,∃i,e b=some i)∧
 d∈a∧∃s,e.cell ⟨d,0,none⟩=some (vI vU s)∧
 FnW wP Zdl ⟨[(vI vU n),(vI wI j)]⟩ e fun D m=>
 ∃t,D=vI vU t∧
 Zb a e m∧FnW wP Zgb ⟨[(vI vU s),(vI vU t)]⟩ m fun E v=>
 ∃u,E=vI vU u∧
 Zbe (Int×Unit) (0,()) v fun z g y=>∀F:Env,Zbko d w h x j u r z.1 g y f)))
theorem Zced (h:Nat) (d:Int) (e:Option Addr) (g f:Nat) {a:Heap} {c:Value->Heap->Prop} (j:Zbkp h d e g f a fun k i=>∀b,Shut a i b->c k b):FnW wP Zwg ⟨[(vP (some ⟨h,0,none⟩)),(vI vU d),(vS e g f)]⟩ a c:=Zc Tryz.func180 ⟨[(5,[0,1,2,3,4,6,7,8,5,9,10,11,12,13,14,15,16],[25]),(8,[0,1,2,3,4,5,6,7,8,9],[41])],[(10,[48],[.int wI],[0,2,8,11,47])],[],[]⟩ (by kernel_rfl) (by kernel_rfl) j
def Zbmf (a:Nat) (b:Heap) (f:Value->Heap->Prop):Prop:=
 ∃c,b.cell ⟨a,10,none⟩=some (vI wI c)∧
 Za b ⟨a,0,none⟩ (vI wI 9) fun d=>
 Za d ⟨a,11,none⟩ (vI wI (vW wI (c+120))) fun e=>
 f (vT ⟨[]⟩) e
theorem Zcgg (d:Nat) {a:Heap} {c:Value->Heap->Prop} (f:Zbmf d a fun g e=>∀b,Shut a e b->c g b):FnW wP Zpk ⟨[(vP (some ⟨d,0,none⟩))]⟩ a c:=Zc Tryz.func181 ⟨[],[],[],[]⟩ (by kernel_rfl) (by kernel_rfl) f
def Zbng (c:Nat) (d:Int) (g:Heap) (b:Value->Heap->Prop):Prop:=
 FnW wP Zfk ⟨[(vP (some ⟨c,0,none⟩))]⟩ g fun i a=>
 ∃f,i=vB f∧
 IfB (!f)
 (b (vI wI 1) a)
 (∃e,a.cell ⟨c,10,none⟩=some (vI wI e)∧
 IfB (decide (d<e))
 (b (vI wI 2) a)
 (Za a ⟨c,10,none⟩ (vI wI d) fun h=>
 b (vI wI 0) h))
theorem Zchh (e:Nat) (d:Int) {a:Heap} {c:Value->Heap->Prop} (g:Zbng e d a fun h f=>∀b,Shut a f b->c h b):FnW wP Zxj ⟨[(vP (some ⟨e,0,none⟩)),(vI wI d)]⟩ a c:=Zc Tryz.func194 ⟨[],[],[],[]⟩ (by kernel_rfl) (by kernel_rfl) g
def Zua (b:Nat) (f g:Int) (h:Option Addr) (j i:Nat) (a:Heap) (e:Value->Heap->Prop):Prop:=
 ∃c,a.cell ⟨b,6,none⟩=some (vI wI c)∧
 Za a ⟨b,6,none⟩ (vI wI (vW wI (c+f))) fun d=>
 e (vT ⟨[(vI vU g),(vS h j i),(vI wI 0)]⟩) d
def Zbcl (a:Nat) (e:Int) (o:Heap) (i:Value->Heap->Prop):Prop:=
 IfB (decide (e <= 0))
 (i (vT ⟨[(vI vU 0),(vS none 0 0),(vI wI 5)]⟩) o)
 (FnW wP Zjn ⟨[(vP (some ⟨a,0,none⟩))]⟩ o fun B d=>
 ∃f,B=vI vU f∧
 ∃k C g,d.cell ⟨a,5,none⟩=some (vS k C g)∧
 ∃q,d.cell ⟨a,6,none⟩=some (vI wI q)∧
 ∃r,d.cell ⟨a,6,none⟩=some (vI wI r)∧
 InC (vW wI (r+e)) g fun s=>
 InC q s fun h=>
 FnW wP Zph ⟨[(vS (if g=h then k else vM (fun z=>Addr.add z (h*1)) k) (s - h) (g - h))]⟩ d fun D c=>
 ∃l n m,D=vS l n m∧
 ∃t,c.cell ⟨a,1,none⟩=some (vB t)∧
 IfB (!t)
 (∃j:List Nat,(∀b∈j,∃A,c b=some A)∧
 a∈j∧∃v,c.cell ⟨a,10,none⟩=some (vI wI v)∧
 FnW wP Zdl ⟨[(vI vU f),(vI wI 1)]⟩ c fun E p=>
 ∃u,E=vI vU u∧
 Zb j c p∧Za p ⟨a,1,none⟩ (vB true) fun w=>
 Za w ⟨a,2,none⟩ (vI vU u) fun x=>
 Za x ⟨a,3,none⟩ (vI wI v) fun y=>
 Zua a e f l n m y i)
 (Zua a e f l n m c i))
theorem Zbqa (e:Nat) (d:Int) {a:Heap} {c:Value->Heap->Prop} (g:Zbcl e d a fun h f=>∀b,Shut a f b->c h b):FnW wP Zps ⟨[(vP (some ⟨e,0,none⟩)),(vI wI d)]⟩ a c:=Zc Tryz.func195 ⟨[(6,[0,1,3,4,5,6,2,7,8,9,10],[41])],[],[],[]⟩ (by kernel_rfl) (by kernel_rfl) g
def Zbkr (c d:Int) (a:Heap) (b:Value->Heap->Prop):Prop:=
 IfB (decide (c≥d))
 (b (vB (decide (c <= 65535))) a)
 (b (vB false) a)
theorem Zcef (e d:Int) {a:Heap} {c:Value->Heap->Prop} (g:Zbkr e d a fun h f=>∀b,Shut a f b->c h b):FnW wP Zjp ⟨[(vI wI e),(vI wI d)]⟩ a c:=Zc Tryz.func207 ⟨[],[],[],[]⟩ (by kernel_rfl) (by kernel_rfl) g
def Zbif (a:Heap) (c:Value->Heap->Prop):Prop:=
 NewW a (Obj.cells ⟨[(vI wI 0),(vI wI 0),(vI wI 0),(vB false),(vB true)]⟩ Zvc) fun d b=>
 c (vP (some ⟨d,0,none⟩)) b
theorem Zcac {a:Heap} {c:Value->Heap->Prop} (e:Zbif a fun f d=>∀b,Shut a d b->c f b):FnW wP Zwa ⟨[]⟩ a c:=Zc Tryz.func208 ⟨[],[],[],[]⟩ (by kernel_rfl) (by kernel_rfl) e
def Zblj (d:Nat) (a:Heap) (c:Value->Heap->Prop):Prop:=
 ∃b,a.cell ⟨d,4,none⟩=some (vB b)∧
 c (vB b) a
theorem Zcey (d:Nat) {a:Heap} {c:Value->Heap->Prop} (f:Zblj d a fun g e=>∀b,Shut a e b->c g b):FnW wP Zlv ⟨[(vP (some ⟨d,0,none⟩))]⟩ a c:=Zc Tryz.func209 ⟨[],[],[],[]⟩ (by kernel_rfl) (by kernel_rfl) f
def Zbio (c d:Int) (a:Heap) (b:Value->Heap->Prop):Prop:=
 b (vI vU (vW vU (d - c))) a
theorem Zcav (d e:Int) {a:Heap} {c:Value->Heap->Prop} (g:Zbio d e a fun h f=>∀b,Shut a f b->c h b):FnW wP Zgb ⟨[(vI vU d),(vI vU e)]⟩ a c:=Zc Tryz.func210 ⟨[],[],[],[]⟩ (by kernel_rfl) (by kernel_rfl) g
def Zts (a:Nat) (c:Int) (h:Heap) (u:Value->Heap->Prop):Prop:=
 ∃k,h.cell ⟨a,0,none⟩=some (vP k)∧
 FnW wP Zlu ⟨[(vP k)]⟩ h fun w i=>
 w=vT ⟨[]⟩∧
 ∃l,i.cell ⟨a,4,none⟩=some (vI vU l)∧
 FnW wP Zdl ⟨[(vI vU l),(vI wI c)]⟩ i fun x s=>
 ∃m,x=vI vU m∧
 Za s ⟨a,4,none⟩ (vI vU m) fun j=>
 ∃d f e,j.cell ⟨a,5,none⟩=some (vS d f e)∧
 InC c f fun b=>
 FnW wP Zph ⟨[(vS (if e=b then d else vM (fun v=>Addr.add v (b*1)) d) (f - b) (e - b))]⟩ j fun y t=>
 ∃n p o,y=vS n p o∧
 Za t ⟨a,5,none⟩ (vS n p o) fun g=>
 ∃q,g.cell ⟨a,6,none⟩=some (vI wI q)∧
 Za g ⟨a,6,none⟩ (vI wI (vW wI (q - c))) fun r=>
 u (vT ⟨[]⟩) r
def Ztr (a:Nat) (e:Int) (j:Bool) (c:Heap) (d:Value->Heap->Prop):Prop:=
 IfB j
 (Za c ⟨a,1,none⟩ (vB false) fun b=>
 ∃f,b.cell ⟨a,0,none⟩=some (vP f)∧
 ∃g,b.cell ⟨a,10,none⟩=some (vI wI g)∧
 ∃h,b.cell ⟨a,3,none⟩=some (vI wI h)∧
 FnW wP Zyo ⟨[(vP f),(vI wI (min 100000 (vW wI (g - h))))]⟩ b fun l i=>
 ∃k,l=vI wI k∧
 Zts a e i d)
 (Zts a e c d)
def Zbpb (b:Nat) (c:Int) (a:Heap) (d:Value->Heap->Prop):Prop:=
 ∃h,a.cell ⟨b,1,none⟩=some (vB h)∧
 IfB h
 (∃e,a.cell ⟨b,4,none⟩=some (vI vU e)∧
 ∃f,a.cell ⟨b,2,none⟩=some (vI vU f)∧
 FnW wP Zgb ⟨[(vI vU e),(vI vU f)]⟩ a fun j i=>
 ∃g,j=vI vU g∧
 Ztr b c (decide (((vW wI g):Int) <= c)) i d)
 (Ztr b c false a d)
theorem Zciy (e:Nat) (d:Int) {a:Heap} {c:Value->Heap->Prop} (g:Zbpb e d a fun h f=>∀b,Shut a f b->c h b):FnW wP Zxx ⟨[(vP (some ⟨e,0,none⟩)),(vI wI d)]⟩ a c:=Zc Tryz.func211 ⟨[(0,[0,1,2,3,4,5,6,7,8,9,10,11,12,13,14,17,15,16,18,19],[])],[],[],[]⟩ (by kernel_rfl) (by kernel_rfl) g
def Zbjw (c:Int) (a:Heap) (b:Value->Heap->Prop):Prop:=
 IfB (decide (c≥0))
 (b (vB (decide (c <= 65535))) a)
 (b (vB false) a)
theorem Zcds (d:Int) {a:Heap} {c:Value->Heap->Prop} (f:Zbjw d a fun g e=>∀b,Shut a e b->c g b):FnW wP Zoo ⟨[(vI wI d)]⟩ a c:=Zc Tryz.func212 ⟨[],[],[],[]⟩ (by kernel_rfl) (by kernel_rfl) f
def Zue (e d c:Int) (f:Bool) (a:Heap) (b:Value->Heap->Prop):Prop:=
 IfB f
 (b (vT ⟨[(vI wI 0),(vI wI 0),(vI wI 0)]⟩) a)
 (b (vT ⟨[(vI wI (vW wI c)),(vI wI (min (vW wI (d - (vW wI c))) e)),(vI wI 0)]⟩) a)
def Zbqh (i a h b:Int) (k:Heap) (c:Value->Heap->Prop):Prop:=
 FnW wP Zon ⟨[(vI wI a),(vI wI b)]⟩ k fun m g=>
 ∃j,m=vB j∧
 IfB (!j)
 (c (vT ⟨[(vI wI 0),(vI wI 0),(vI wI 2)]⟩) g)
 (FnW wP Zgb ⟨[(vI vU i),(vI vU h)]⟩ g fun n l=>
 ∃f,n=vI vU f∧
 FnW wP Zgb ⟨[(vI vU h),(vI vU i)]⟩ l fun o e=>
 ∃d,o=vI vU d∧
 IfB (decide (f<(vW vU a)))
 (c (vT ⟨[(vI wI 0),(vI wI (min b (vW wI (a - (vW wI f))))),(vI wI 0)]⟩) e)
 (IfB (decide (((vW wI d):Int)≥b))
 (Zue a b d true e c)
 (Zue a b d (a==0) e c)))
theorem Zcjx (f g d e:Int) {a:Heap} {c:Value->Heap->Prop} (i:Zbqh f g d e a fun j h=>∀b,Shut a h b->c j b):FnW wP Zyh ⟨[(vI vU f),(vI wI g),(vI vU d),(vI wI e)]⟩ a c:=Zc Tryz.func213 ⟨[],[],[],[]⟩ (by kernel_rfl) (by kernel_rfl) i
def Zbnh (b:Nat) (r q:Int) (n:Heap) (e:Value->Heap->Prop):Prop:=
 FnW wP Zll ⟨[(vP (some ⟨b,0,none⟩)),(vI wI r)]⟩ n fun E a=>
 ∃c,E=vI wI c∧
 ∃f g s,a.cell ⟨b,3,none⟩=some (vS f g s)∧
 NilP f fun v=>
 InB c g fun t=>
 elemAt v t 1 fun u=>
 ∃h,a.cell u=some (vB h)∧
 IfB (!h)
 (∃i j w,a.cell ⟨b,2,none⟩=some (vS i j w)∧
 ∃k l x,a.cell ⟨b,3,none⟩=some (vS k l x)∧
 NilP i fun A=>
 InB c j fun y=>
 elemAt A y 1 fun z=>
 Za a z (vI wU q) fun o=>
 NilP k fun D=>
 InB c l fun B=>
 elemAt D B 1 fun C=>
 Za o C (vB true) fun d=>
 ∃m,d.cell ⟨b,4,none⟩=some (vI wI m)∧
 Za d ⟨b,4,none⟩ (vI wI (vW wI (m+1))) fun p=>
 e (vT ⟨[]⟩) p)
 (e (vT ⟨[]⟩) a)
theorem Zchi (f:Nat) (e d:Int) {a:Heap} {c:Value->Heap->Prop} (h:Zbnh f e d a fun i g=>∀b,Shut a g b->c i b):FnW wP Zxk ⟨[(vP (some ⟨f,0,none⟩)),(vI wI e),(vI wU d)]⟩ a c:=Zc Tryz.func214 ⟨[],[],[],[]⟩ (by kernel_rfl) (by kernel_rfl) h
def Zuq (a:Nat) (f:Int) (b:Heap) (G:(Int×Unit)->Heap->Prop) (F:Value->Heap->Prop):Prop:=
 ∃y z V,b.cell ⟨a,3,none⟩=some (vS y z V)∧
 ∃g,b.cell ⟨a,1,none⟩=some (vI wI g)∧
 NilP y fun J=>
 InB g z fun H=>
 elemAt J H 1 fun I=>
 ∃h,b.cell I=some (vB h)∧
 IfB (!h)
 (F (vI wI f) b)
 (∃i k j,b.cell ⟨a,5,none⟩=some (vS i k j)∧
 ∃l m K,b.cell ⟨a,2,none⟩=some (vS l m K)∧
 ∃n,b.cell ⟨a,1,none⟩=some (vI wI n)∧
 NilP l fun N=>
 InB n m fun L=>
 elemAt N L 1 fun M=>
 ∃o,b.cell M=some (vI wU o)∧
 NewW b (Obj.cells ⟨[(vI wU o)]⟩ Zh) fun O A=>
 AppW wP #[Zd,Zd] Zd [(vS i k j),(vS (some ⟨O,0,none⟩) 1 1)] A fun P B=>
 ∃p r q,P=vS p r q∧
 Za B ⟨a,5,none⟩ (vS p r q) fun c=>
 ∃s t Q,c.cell ⟨a,3,none⟩=some (vS s t Q)∧
 ∃u,c.cell ⟨a,1,none⟩=some (vI wI u)∧
 NilP s fun T=>
 InB u t fun R=>
 elemAt T R 1 fun S=>
 Za c S (vB false) fun C=>
 FnW wP Zll ⟨[(vP (some ⟨a,0,none⟩)),(vI wI 1)]⟩ C fun U D=>
 ∃v,U=vI wI v∧
 Za D ⟨a,1,none⟩ (vI wI v) fun d=>
 ∃w,d.cell ⟨a,4,none⟩=some (vI wI w)∧
 Za d ⟨a,4,none⟩ (vI wI (vW wI (w - 1))) fun e=>
 ∃x,e.cell ⟨a,0,none⟩=some (vI vU x)∧
 Za e ⟨a,0,none⟩ (vI vU (vW vU (x+1))) fun E=>
 G ((vW wI (f+1)),()) E)
def Zbre (c:Nat) (a:Heap) (b:Value->Heap->Prop):Prop:=
 Zbe (Int×Unit) (0,()) a fun e a d=>∀f:Env,Zuq c e.1 a d b
theorem Zckq (d:Nat) {a:Heap} {c:Value->Heap->Prop} (f:Zbre d a fun g e=>∀b,Shut a e b->c g b):FnW wP Zyn ⟨[(vP (some ⟨d,0,none⟩))]⟩ a c:=Zc Tryz.func215 ⟨[],[(2000000,[3],[.int wI],[0])],[],[]⟩ (by kernel_rfl) (by kernel_rfl) f
def Zur (a:Nat) (c:Int) (p:Bool) (b:Heap) (e:Value->Heap->Prop):Prop:=
 IfB p
 (e (vI wI 2) b)
 (∃g,b.cell ⟨a,3,none⟩=some (vB g)∧
 IfB (!g)
 ((2:Int)≠0∧
 Za b ⟨a,0,none⟩ (vI wI (vW wI (8*c))) fun l=>
 Za l ⟨a,1,none⟩ (vI wI (vW wI (Int.tdiv (vW wI (4*c)) 2))) fun m=>
 Za m ⟨a,3,none⟩ (vB true) fun n=>
 e (vI wI 0) n)
 (∃f,b.cell ⟨a,0,none⟩=some (vI wI f)∧
 (8:Int)≠0∧
 ∃h,b.cell ⟨a,1,none⟩=some (vI wI h)∧
 ∃i,b.cell ⟨a,1,none⟩=some (vI wI i)∧
 (4:Int)≠0∧
 Za b ⟨a,1,none⟩ (vI wI (vW wI (h+(vW wI ((max (vW wI ((vW wI (Int.tdiv f 8)) - c)) (vW wI (0 - (vW wI ((vW wI (Int.tdiv f 8)) - c))))) - (vW wI (Int.tdiv i 4))))))) fun d=>
 ∃j,d.cell ⟨a,0,none⟩=some (vI wI j)∧
 ∃k,d.cell ⟨a,0,none⟩=some (vI wI k)∧
 (8:Int)≠0∧
 Za d ⟨a,0,none⟩ (vI wI (vW wI (j+(vW wI (c - (vW wI (Int.tdiv k 8))))))) fun o=>
 e (vI wI 0) o))
def Zbrf (d:Nat) (a:Int) (f:Heap) (c:Value->Heap->Prop):Prop:=
 FnW wP Zlv ⟨[(vP (some ⟨d,0,none⟩))]⟩ f fun g b=>
 ∃e,g=vB e∧
 IfB (!e)
 (c (vI wI 1) b)
 (IfB (decide (a<0))
 (Zur d a true b c)
 (Zur d a (decide (a>100000)) b c))
theorem Zckr (d:Nat) (e:Int) {a:Heap} {c:Value->Heap->Prop} (g:Zbrf d e a fun h f=>∀b,Shut a f b->c h b):FnW wP Zyo ⟨[(vP (some ⟨d,0,none⟩)),(vI wI e)]⟩ a c:=Zc Tryz.func224 ⟨[],[],[],[]⟩ (by kernel_rfl) (by kernel_rfl) g
def Zbbo (c:Nat) (f:Int) (a:Heap) (e:Value->Heap->Prop):Prop:=
 ∃d,a.cell ⟨c,1,none⟩=some (vI wI d)∧
 ∃g b h,a.cell ⟨c,2,none⟩=some (vS g b h)∧
 ((b:Int):Int)≠0∧
 e (vI wI (Int.tmod (vW wI (d+f)) (b:Int))) a
theorem Zbjy (e:Nat) (d:Int) {a:Heap} {c:Value->Heap->Prop} (g:Zbbo e d a fun h f=>∀b,Shut a f b->c h b):FnW wP Zll ⟨[(vP (some ⟨e,0,none⟩)),(vI wI d)]⟩ a c:=Zc Tryz.func225 ⟨[],[],[],[]⟩ (by kernel_rfl) (by kernel_rfl) g
end Go.Proofs.YtaljkjokbdpdoaaGreat
end
