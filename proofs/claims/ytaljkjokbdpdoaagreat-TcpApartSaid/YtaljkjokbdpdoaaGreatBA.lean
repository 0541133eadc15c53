/-
  NUMBERS BY NAME:printed by a program of ours over this translation.
-/
import Derived.Test.YtaljkjokbdpdoaaGreatEC
import Derived.Test.YtaljkjokbdpdoaaGreatRows
set_option linter.all false
section
set_option maxRecDepth 100000
set_option maxHeartbeats 4000000
namespace Go.Proofs.YtaljkjokbdpdoaaGreat
open Go.Sh
def Zea (a:Func):Code:=match a.body with | some c=>c | none=> .skip
abbrev T_:TypeId:=0
abbrev Zy:TypeId:=3
abbrev Zbq:TypeId:=4
abbrev Zh:TypeId:=5
abbrev Zbcv:TypeId:=9
abbrev Zfg:TypeId:=22
abbrev Zny:TypeId:=23
abbrev Zix:TypeId:=27
abbrev Zvc:TypeId:=29
abbrev Zdy:TypeId:=30
abbrev Zlf:TypeId:=32
abbrev Zja:TypeId:=33
abbrev Znz:TypeId:=37
abbrev Zd:TypeId:=40
abbrev Zl:TypeId:=42
abbrev Zey:TypeId:=44
abbrev Zq:TypeId:=48
abbrev Zca:TypeId:=49
abbrev Zdx:TypeId:=54
abbrev Zen:TypeId:=59
abbrev Ziz:TypeId:=65
abbrev Zbcu:TypeId:=68
abbrev Zbh:TypeId:=84
abbrev Zfd:TypeId:=85
abbrev Zez:TypeId:=86
abbrev Zvd:TypeId:=88
abbrev Zeo:TypeId:=90
abbrev Zld:TypeId:=92
abbrev Zfx:TypeId:=94
abbrev Zve:TypeId:=99
abbrev Zcy:TypeId:=104
abbrev Zfe:TypeId:=108
abbrev Zff:TypeId:=118
abbrev Zva:TypeId:=130
abbrev Zgn:TypeId:=134
abbrev Ziy:TypeId:=138
abbrev Zem:TypeId:=171
abbrev Zhs:TypeId:=178
abbrev Zht:TypeId:=185
abbrev Zuz:TypeId:=187
abbrev Zhr:TypeId:=190
abbrev Zgo:TypeId:=221
abbrev Zbrz:TypeId:=225
abbrev Zhq:TypeId:=227
abbrev Zlc:TypeId:=229
abbrev Zvb:TypeId:=256
abbrev Zle:TypeId:=265
abbrev Zbeg:FuncId:=3
abbrev Zwz:FuncId:=6
abbrev Zgu:FuncId:=7
abbrev Zia:FuncId:=8
abbrev Zyl:FuncId:=9
abbrev Zji:FuncId:=10
abbrev Zjp:FuncId:=11
abbrev Zib:FuncId:=12
abbrev Zpu:FuncId:=13
abbrev Zpt:FuncId:=14
abbrev Zjs:FuncId:=15
abbrev Zxa:FuncId:=16
abbrev Zxb:FuncId:=17
abbrev Zie:FuncId:=18
abbrev Zma:FuncId:=19
abbrev Zgw:FuncId:=20
abbrev Zxc:FuncId:=24
abbrev Zyf:FuncId:=26
abbrev Zpk:FuncId:=28
abbrev Zlv:FuncId:=29
abbrev Zyg:FuncId:=30
abbrev Zpl:FuncId:=31
abbrev Zpm:FuncId:=32
abbrev Zgx:FuncId:=33
abbrev Zoq:FuncId:=34
abbrev Zpv:FuncId:=35
abbrev Zya:FuncId:=36
abbrev Zpn:FuncId:=37
abbrev Zjx:FuncId:=38
abbrev Zhy:FuncId:=39
abbrev Zdn:FuncId:=40
abbrev Zor:FuncId:=41
abbrev Zwi:FuncId:=42
abbrev Zly:FuncId:=43
abbrev Zos:FuncId:=44
abbrev Zpo:FuncId:=45
abbrev Zyh:FuncId:=46
abbrev Zyd:FuncId:=47
abbrev Zxd:FuncId:=48
abbrev Zwe:FuncId:=49
abbrev Zyb:FuncId:=50
abbrev Zjj:FuncId:=51
abbrev Zxw:FuncId:=52
abbrev Zpx:FuncId:=53
abbrev Zxs:FuncId:=54
abbrev Zxi:FuncId:=55
abbrev Zwf:FuncId:=56
abbrev Zxo:FuncId:=57
abbrev Zot:FuncId:=58
abbrev Zlw:FuncId:=59
abbrev Zoz:FuncId:=60
abbrev Zpp:FuncId:=65
abbrev Zmi:FuncId:=66
abbrev Zxj:FuncId:=67
abbrev Zbs:FuncId:=68
abbrev Zeb:FuncId:=69
abbrev Zje:FuncId:=72
abbrev Zox:FuncId:=73
abbrev Zlz:FuncId:=74
abbrev Zjn:FuncId:=75
abbrev Zdm:FuncId:=76
abbrev Zmj:FuncId:=77
abbrev Zjt:FuncId:=78
abbrev Zpw:FuncId:=79
abbrev Zdg:FuncId:=80
abbrev Zmd:FuncId:=81
abbrev Zme:FuncId:=82
abbrev Zmc:FuncId:=83
abbrev Zwo:FuncId:=84
abbrev Zwm:FuncId:=85
abbrev Zoy:FuncId:=86
abbrev Zxv:FuncId:=87
abbrev Zxq:FuncId:=88
abbrev Zxe:FuncId:=89
abbrev Zqb:FuncId:=90
abbrev Zxp:FuncId:=91
abbrev Zxk:FuncId:=92
abbrev Zp:FuncId:=93
abbrev Zou:FuncId:=94
abbrev Zym:FuncId:=95
abbrev Zxt:FuncId:=96
abbrev Zda:FuncId:=97
abbrev Zlo:FuncId:=98
abbrev Zju:FuncId:=99
abbrev Zmb:FuncId:=100
abbrev Zlp:FuncId:=101
abbrev Zps:FuncId:=103
abbrev Zlr:FuncId:=104
abbrev Zpd:FuncId:=106
abbrev Zbeh:FuncId:=107
abbrev Zop:FuncId:=108
abbrev Zqc:FuncId:=109
abbrev Zlq:FuncId:=113
abbrev Zic:FuncId:=114
abbrev Zxn:FuncId:=115
abbrev Zwn:FuncId:=116
abbrev Zwl:FuncId:=117
abbrev Zow:FuncId:=118
abbrev Zcu:FuncId:=119
abbrev Zhz:FuncId:=120
abbrev Zqd:FuncId:=121
abbrev Zjv:FuncId:=122
abbrev Zjw:FuncId:=123
abbrev Zxf:FuncId:=124
abbrev Zxx:FuncId:=125
abbrev Zjm:FuncId:=126
abbrev Zco:FuncId:=127
abbrev Zpa:FuncId:=128
abbrev Zpb:FuncId:=129
abbrev Zmk:FuncId:=130
abbrev Zpc:FuncId:=131
abbrev Zxy:FuncId:=132
abbrev Zid:FuncId:=133
abbrev Zjq:FuncId:=134
abbrev Zwh:FuncId:=135
abbrev Zxl:FuncId:=136
abbrev Zjf:FuncId:=137
abbrev Zov:FuncId:=138
abbrev Zlx:FuncId:=139
abbrev Zjk:FuncId:=140
abbrev Zjo:FuncId:=141
abbrev Zpz:FuncId:=142
abbrev Zfb:FuncId:=143
abbrev Zyc:FuncId:=144
abbrev Zmg:FuncId:=145
abbrev Zwb:FuncId:=146
abbrev Zxu:FuncId:=147
abbrev Zye:FuncId:=148
abbrev Zwg:FuncId:=149
abbrev Zfk:FuncId:=150
abbrev Zwq:FuncId:=152
abbrev Zpe:FuncId:=153
abbrev Zpf:FuncId:=154
abbrev Zwp:FuncId:=155
abbrev Zfa:FuncId:=156
abbrev Zpj:FuncId:=157
abbrev Zpg:FuncId:=158
abbrev Zdf:FuncId:=159
abbrev Zyi:FuncId:=163
abbrev Zwr:FuncId:=164
abbrev Zws:FuncId:=165
abbrev Zxm:FuncId:=166
abbrev Zph:FuncId:=167
abbrev Zyn:FuncId:=168
abbrev Zwt:FuncId:=169
abbrev Zls:FuncId:=170
abbrev Zjr:FuncId:=171
abbrev Zqe:FuncId:=172
abbrev Zmf:FuncId:=173
abbrev Zhx:FuncId:=174
abbrev Zjg:FuncId:=175
abbrev Zwu:FuncId:=176
abbrev Zww:FuncId:=177
abbrev Zwv:FuncId:=178
abbrev Zlt:FuncId:=179
abbrev Zwd:FuncId:=180
abbrev Zpi:FuncId:=181
abbrev Zgv:FuncId:=182
abbrev Zbum:FuncId:=183
abbrev Zxg:FuncId:=184
abbrev Zxh:FuncId:=185
abbrev Zpq:FuncId:=186
abbrev Zwj:FuncId:=187
abbrev Zmh:FuncId:=188
abbrev Zjl:FuncId:=189
abbrev Zpr:FuncId:=190
abbrev Zwk:FuncId:=191
abbrev Zwc:FuncId:=192
abbrev Zwx:FuncId:=194
abbrev Zpy:FuncId:=195
abbrev Zjh:FuncId:=207
abbrev Zwa:FuncId:=208
abbrev Zlu:FuncId:=209
abbrev Zfz:FuncId:=210
abbrev Zxr:FuncId:=211
abbrev Zqf:FuncId:=212
abbrev Zxz:FuncId:=213
abbrev Zwy:FuncId:=214
abbrev Zyj:FuncId:=215
abbrev Zbun:FuncId:=216
abbrev Zqa:FuncId:=217
abbrev Zyk:FuncId:=224
abbrev Zml:FuncId:=225
theorem Zc {i:FuncId} {a:Func} (l:Tryz.prog.funcs[i]? =some a) (plan:Plan) {d:List Value} {b:Heap} {g:Value->Heap->Prop} {j:Prop}
    (o:(Nat.ble d.length a.ntmps&&(a.body.isSome&&(!(a.name== "runtime.NumGoroutine")&&(codeOk Tryz.prog a.ntmps plan none (Zea a)&&a.results.toList.all (fun m=>match m with | .tmp t=>Nat.blt t a.ntmps | .cell t _=>Nat.blt t a.ntmps)))))=true)
    (e:j=Zf Tryz.prog plan (Zea a) (env0 d) b (RetW Tryz.prog a.results.toList fun n k=>∀f,Shut b k f->g n f)) (h:j):FnW Tryz.prog i ⟨d⟩ b g:=by
  have x:=Bool.and_eq_true_iff.mp o;have y:=Bool.and_eq_true_iff.mp x.2;have z:=Bool.and_eq_true_iff.mp y.2;have w:=Bool.and_eq_true_iff.mp z.2;refine FnW.of_code (plan:=plan) (c:=Zea a) ⟨l,?_,by cases hq:(a.name== "runtime.NumGoroutine")<;>simp_all,by kernel_rfl,w.1,w.2⟩ x.1 (e▸h)
  have hb:=y.1;unfold Zea;cases hq:a.body with
  | none=>rw [hq] at hb;cases hb
  | some c=>rfl
end Go.Proofs.YtaljkjokbdpdoaaGreat
end
section
set_option maxRecDepth 100000
namespace Go.Proofs.YtaljkjokbdpdoaaGreat
open Go.Sh
def Zup (m l n k:Int) (o:Bool) (b:Heap) (c:Value->Heap->Prop):Prop:=
 IfB o
 (c (Value.tuple ⟨[(Value.pointer none),(Value.slice none 0 0),(Value.int .i64 2)]⟩) b)
 (FnW Tryz.prog Zox ⟨[(Value.int .i64 m),(Value.int .i64 l),(Value.int .i64 n),(Value.int .u32 k)]⟩ b fun p g=>
 ∃a,p=Value.pointer a∧
 NilP a fun q=>
 Za g q (Value.int .i64 1) fun h=>
 FnW Tryz.prog Zlz ⟨[(Value.pointer a)]⟩ h fun r i=>
 r=Value.tuple ⟨[]⟩∧
 FnW Tryz.prog Zjn ⟨[(Value.pointer a)]⟩ i fun s j=>
 ∃d f e,s=Value.slice d f e∧
 c (Value.tuple ⟨[(Value.pointer a),(Value.slice d f e),(Value.int .i64 0)]⟩) j)
def Zbqr (b a c e:Int) (j:Heap) (d:Value->Heap->Prop):Prop:=
 FnW Tryz.prog Zje ⟨[(Value.int .i64 a)]⟩ j fun k f=>
 ∃h,k=Value.bool h∧
 IfB (!h)
 (Zup b a c e true f d)
 (FnW Tryz.prog Zje ⟨[(Value.int .i64 c)]⟩ f fun l g=>
 ∃i,l=Value.bool i∧
 IfB (!i)
 (Zup b a c e true g d)
 (Zup b a c e (decide (b<0)) g d))
theorem Zciv (f e g d:Int) {a:Heap} {c:Value->Heap->Prop} (i:Zbqr f e g d a fun j h=>∀b,Shut a h b->c j b):FnW Tryz.prog Zyg ⟨[(Value.int .i64 f),(Value.int .i64 e),(Value.int .i64 g),(Value.int .u32 d)]⟩ a c:=Zc Tryz.func30 ⟨[],[],[],[]⟩ (by kernel_rfl) (by kernel_rfl) i
def Zut (g:Nat) (h:Int) (d:Heap) (f:Value->Heap->Prop):Prop:=
 FnW Tryz.prog Zjn ⟨[(Value.pointer (some ⟨g,0,none⟩))]⟩ d fun i e=>
 ∃a c b,i=Value.slice a c b∧
 f (Value.tuple ⟨[(Value.slice a c b),(Value.int .i64 h)]⟩) e
def Zbqu (e:Nat) (h Y Z a0 a1 a2 a3 a4 a5:Int) (a6:Option Addr) (a8 a7:Nat) (U:Heap) (g:Value->Heap->Prop):Prop:=
 NewW U (Obj.cells ⟨[(Value.int .i64 Y),(Value.int .i64 Z),(Value.int .u32 a0),(Value.int .u32 a1),(Value.int .i64 a2),(Value.int .i64 a3),(Value.int .i64 a4),(Value.int .i64 a5),(Value.slice a6 a8 a7)]⟩ Zl) fun a V=>
 FnW Tryz.prog Zwm ⟨[(Value.pointer (some ⟨e,0,none⟩)),(Value.int .i64 h)]⟩ V fun a9 b=>
 ∃i,a9=Value.int .i64 i∧
 IfB (i !=0)
 (g (Value.tuple ⟨[(Value.slice none 0 0),(Value.int .i64 i)]⟩) b)
 (∃k,b.cell ⟨a,0,none⟩=some (Value.int .i64 k)∧∃l,b.cell ⟨a,1,none⟩=some (Value.int .i64 l)∧∃m,b.cell ⟨a,2,none⟩=some (Value.int .u32 m)∧∃n,b.cell ⟨a,3,none⟩=some (Value.int .u32 n)∧∃o,b.cell ⟨a,4,none⟩=some (Value.int .i64 o)∧∃p,b.cell ⟨a,5,none⟩=some (Value.int .i64 p)∧∃q,b.cell ⟨a,6,none⟩=some (Value.int .i64 q)∧∃r,b.cell ⟨a,7,none⟩=some (Value.int .i64 r)∧∃s u t,b.cell ⟨a,8,none⟩=some (Value.slice s u t)∧FnW Tryz.prog Zoy ⟨[(Value.agg ⟨[(Value.int .i64 k),(Value.int .i64 l),(Value.int .u32 m),(Value.int .u32 n),(Value.int .i64 o),(Value.int .i64 p),(Value.int .i64 q),(Value.int .i64 r),(Value.slice s u t)]⟩)]⟩ b fun b0 f=>
 ∃v,b0=Value.bool v∧
 IfB (!v)
 (g (Value.tuple ⟨[(Value.slice none 0 0),(Value.int .i64 2)]⟩) f)
 (∃j,f.cell ⟨e,0,none⟩=some (Value.int .i64 j)∧
 IfB (j==0)
 (g (Value.tuple ⟨[(Value.slice none 0 0),(Value.int .i64 150)]⟩) f)
 (IfB (j==1)
 (Za f ⟨e,10,none⟩ (Value.int .i64 h) fun c=>
 ∃I,c.cell ⟨a,0,none⟩=some (Value.int .i64 I)∧∃J,c.cell ⟨a,1,none⟩=some (Value.int .i64 J)∧∃K,c.cell ⟨a,2,none⟩=some (Value.int .u32 K)∧∃L,c.cell ⟨a,3,none⟩=some (Value.int .u32 L)∧∃M,c.cell ⟨a,4,none⟩=some (Value.int .i64 M)∧∃N,c.cell ⟨a,5,none⟩=some (Value.int .i64 N)∧∃O,c.cell ⟨a,6,none⟩=some (Value.int .i64 O)∧∃P,c.cell ⟨a,7,none⟩=some (Value.int .i64 P)∧∃Q S R,c.cell ⟨a,8,none⟩=some (Value.slice Q S R)∧FnW Tryz.prog Zxv ⟨[(Value.pointer (some ⟨e,0,none⟩)),(Value.agg ⟨[(Value.int .i64 I),(Value.int .i64 J),(Value.int .u32 K),(Value.int .u32 L),(Value.int .i64 M),(Value.int .i64 N),(Value.int .i64 O),(Value.int .i64 P),(Value.slice Q S R)]⟩)]⟩ c fun b2 W=>
 ∃T,b2=Value.int .i64 T∧
 Zut e T W g)
 (Za f ⟨e,10,none⟩ (Value.int .i64 h) fun d=>
 ∃w,d.cell ⟨a,0,none⟩=some (Value.int .i64 w)∧∃x,d.cell ⟨a,1,none⟩=some (Value.int .i64 x)∧∃y,d.cell ⟨a,2,none⟩=some (Value.int .u32 y)∧∃z,d.cell ⟨a,3,none⟩=some (Value.int .u32 z)∧∃A,d.cell ⟨a,4,none⟩=some (Value.int .i64 A)∧∃B,d.cell ⟨a,5,none⟩=some (Value.int .i64 B)∧∃C,d.cell ⟨a,6,none⟩=some (Value.int .i64 C)∧∃D,d.cell ⟨a,7,none⟩=some (Value.int .i64 D)∧∃E G F,d.cell ⟨a,8,none⟩=some (Value.slice E G F)∧FnW Tryz.prog Zxq ⟨[(Value.pointer (some ⟨e,0,none⟩)),(Value.agg ⟨[(Value.int .i64 w),(Value.int .i64 x),(Value.int .u32 y),(Value.int .u32 z),(Value.int .i64 A),(Value.int .i64 B),(Value.int .i64 C),(Value.int .i64 D),(Value.slice E G F)]⟩)]⟩ d fun b1 X=>
 ∃H,b1=Value.int .i64 H∧
 Zut e H X g))))
theorem Zcix (d:Nat) (e f g h i j k l m:Int) (n:Option Addr) (p o:Nat) {a:Heap} {c:Value->Heap->Prop} (r:Zbqu d e f g h i j k l m n p o a fun s q=>∀b,Shut a q b->c s b):FnW Tryz.prog Zyh ⟨[(Value.pointer (some ⟨d,0,none⟩)),(Value.int .i64 e),(Value.agg ⟨[(Value.int .i64 f),(Value.int .i64 g),(Value.int .u32 h),(Value.int .u32 i),(Value.int .i64 j),(Value.int .i64 k),(Value.int .i64 l),(Value.int .i64 m),(Value.slice n p o)]⟩)]⟩ a c:=Zc Tryz.func46 ⟨[],[],[],[]⟩ (by kernel_rfl) (by kernel_rfl) r
def Zblk (c:Nat) (f:Heap) (b:Value->Heap->Prop):Prop:=
 FnW Tryz.prog Zlp ⟨[(Value.pointer (some ⟨c,0,none⟩))]⟩ f fun g a=>
 ∃d,g=Value.bool d∧
 IfB (!d)
 (b (Value.int .i64 0) a)
 (∃e,a.cell ⟨c,0,none⟩=some (Value.int .i64 e)∧
 b (Value.int .i64 e) a)
theorem Zcdy (d:Nat) {a:Heap} {c:Value->Heap->Prop} (f:Zblk d a fun g e=>∀b,Shut a e b->c g b):FnW Tryz.prog Zoz ⟨[(Value.pointer (some ⟨d,0,none⟩))]⟩ a c:=Zc Tryz.func60 ⟨[],[],[],[]⟩ (by kernel_rfl) (by kernel_rfl) f
def Zbcl (j k:Int) (h:Option Addr) (a i:Nat) (d:Heap) (g:Value->Heap->Prop):Prop:=
 FnW Tryz.prog Zqc ⟨[(Value.int .u32 j),(Value.int .u32 k),(Value.int .u8 6),(Value.int .i64 (a:Int))]⟩ d fun l e=>
 ∃b,l=Value.int .u32 b∧
 FnW Tryz.prog Zop ⟨[(Value.int .u32 b),(Value.slice h a i)]⟩ e fun m f=>
 ∃c,m=Value.int .u32 c∧
 g (Value.int .u32 c) f
theorem Zbrf (g h:Int) (d:Option Addr) (f e:Nat) {a:Heap} {c:Value->Heap->Prop} (j:Zbcl g h d f e a fun k i=>∀b,Shut a i b->c k b):FnW Tryz.prog Zmi ⟨[(Value.int .u32 g),(Value.int .u32 h),(Value.slice d f e)]⟩ a c:=Zc Tryz.func66 ⟨[],[],[],[]⟩ (by kernel_rfl) (by kernel_rfl) j
def Zbjv (c:Int) (a:Heap) (b:Value->Heap->Prop):Prop:=
 IfB (decide (c≥1))
 (b (Value.bool (decide (c <= 65535))) a)
 (b (Value.bool false) a)
theorem Zccq (d:Int) {a:Heap} {c:Value->Heap->Prop} (f:Zbjv d a fun g e=>∀b,Shut a e b->c g b):FnW Tryz.prog Zje ⟨[(Value.int .i64 d)]⟩ a c:=Zc Tryz.func72 ⟨[],[],[],[]⟩ (by kernel_rfl) (by kernel_rfl) f
def Zbli (h g i f:Int) (b:Heap) (e:Value->Heap->Prop):Prop:=
 NewW b (Obj.cells ⟨[(Value.int .i64 0),(Value.int .i64 g),(Value.int .i64 i),(Value.int .u32 f),(Value.pointer none),(Value.pointer none),(Value.bool false),(Value.bool false),(Value.bool false),(Value.bool false),(Value.int .i64 h),(Value.int .i64 (-1)),(Value.slice none 0 0)]⟩ Zem) fun a c=>
 FnW Tryz.prog Zlq ⟨[(Value.pointer (some ⟨a,0,none⟩)),(Value.int .i64 536)]⟩ c fun j d=>
 j=Value.tuple ⟨[]⟩∧
 e (Value.pointer (some ⟨a,0,none⟩)) d
theorem Zcdw (f e g d:Int) {a:Heap} {c:Value->Heap->Prop} (i:Zbli f e g d a fun j h=>∀b,Shut a h b->c j b):FnW Tryz.prog Zox ⟨[(Value.int .i64 f),(Value.int .i64 e),(Value.int .i64 g),(Value.int .u32 d)]⟩ a c:=Zc Tryz.func73 ⟨[],[],[],[]⟩ (by kernel_rfl) (by kernel_rfl) i
def Ztf (b:Nat) (i:Int) (a:Heap) (h:Value->Heap->Prop):Prop:=
 ∃c,a.cell ⟨b,3,none⟩=some (Value.int .u32 c)∧
 FnW Tryz.prog Zic ⟨[(Value.pointer (some ⟨b,0,none⟩)),(Value.int .u32 c),(Value.int .i64 i),(Value.slice none 0 0)]⟩ a fun j f=>
 ∃d,j=Value.pointer d∧
 NilP d fun e=>
 Za f ⟨e.block,e.off+7,none⟩ (Value.int .i64 1460) fun g=>
 h (Value.tuple ⟨[]⟩) g
def Zte (c:Nat) (d:Int) (a:Heap) (b:Value->Heap->Prop):Prop:=
 Ztf c (Zdz .i64 d 2) a b
def Zboh (b:Nat) (a:Heap) (c:Value->Heap->Prop):Prop:=
 ∃d,a.cell ⟨b,0,none⟩=some (Value.int .i64 d)∧
 IfB (d==2)
 (Zte b (Zdz .i64 0 16) a c)
 (IfB (d==1)
 (Zte b 0 a c)
 (Ztf b 0 a c))
theorem Zcgv (d:Nat) {a:Heap} {c:Value->Heap->Prop} (f:Zboh d a fun g e=>∀b,Shut a e b->c g b):FnW Tryz.prog Zlz ⟨[(Value.pointer (some ⟨d,0,none⟩))]⟩ a c:=Zc Tryz.func74 ⟨[],[],[],[]⟩ (by kernel_rfl) (by kernel_rfl) f
def Zkx (b:Nat) (a:Heap) (g:Value->Heap->Prop):Prop:=
 ∃c e d,a.cell ⟨b,12,none⟩=some (Value.slice c e d)∧
 Za a ⟨b,12,none⟩ (Value.slice none 0 0) fun f=>
 g (Value.slice c e d) f
def Zst (a:Nat) (n:Bool) (c:Heap) (d:Value->Heap->Prop):Prop:=
 IfB n
 (Za c ⟨a,11,none⟩ (Value.int .i64 (-1)) fun k=>
 Zkx a k d)
 (∃g,c.cell ⟨a,11,none⟩=some (Value.int .i64 g)∧
 IfB (g==(-1))
 (∃e:List Nat,(∀b∈e,∃m,c b=some m)∧
 a∈e∧∃h,c.cell ⟨a,10,none⟩=some (Value.int .i64 h)∧
 ∃i,c.cell ⟨a,4,none⟩=some (Value.pointer i)∧
 FnW Tryz.prog Zwn ⟨[(Value.pointer i)]⟩ c fun o f=>
 ∃j,o=Value.int .i64 j∧
 Zb e c f∧Za f ⟨a,11,none⟩ (Value.int .i64 (IntKind.wrap .i64 (h+j))) fun l=>
 Zkx a l d)
 (Zkx a c d))
def Zbnr (a:Nat) (b:Heap) (c:Value->Heap->Prop):Prop:=
 ∃f,b.cell ⟨a,0,none⟩=some (Value.int .i64 f)∧
 IfB (f==9)
 (Zkx a b c)
 (∃d,b.cell ⟨a,0,none⟩=some (Value.int .i64 d)∧
 IfB (d==0)
 (Zst a true b c)
 (FnW Tryz.prog Zxn ⟨[(Value.pointer (some ⟨a,0,none⟩))]⟩ b fun h g=>
 ∃e,h=Value.bool e∧
 Zst a (!e) g c))
theorem Zcgk (d:Nat) {a:Heap} {c:Value->Heap->Prop} (f:Zbnr d a fun g e=>∀b,Shut a e b->c g b):FnW Tryz.prog Zjn ⟨[(Value.pointer (some ⟨d,0,none⟩))]⟩ a c:=Zc Tryz.func75 ⟨[(5,[0,1,2,3,4,5,6,7,8,9,10,11,12,13],[34])],[],[],[]⟩ (by kernel_rfl) (by kernel_rfl) f
def Zbic (c d:Int) (a:Heap) (b:Value->Heap->Prop):Prop:=
 b (Value.int .u32 (IntKind.wrap .u32 (c+(IntKind.wrap .u32 d)))) a
theorem Zbzz (d e:Int) {a:Heap} {c:Value->Heap->Prop} (g:Zbic d e a fun h f=>∀b,Shut a f b->c h b):FnW Tryz.prog Zdm ⟨[(Value.int .u32 d),(Value.int .i64 e)]⟩ a c:=Zc Tryz.func76 ⟨[],[],[],[]⟩ (by kernel_rfl) (by kernel_rfl) g
def Zbcm (c7 d9 c8 c9 d0 d1 d2 d3 d4 d5:Int) (d6:Option Addr) (d8 d7:Nat) (c2:Heap) (v:Value->Heap->Prop):Prop:=
 NewW c2 (Obj.cells ⟨[(Value.int .i64 c8),(Value.int .i64 c9),(Value.int .u32 d0),(Value.int .u32 d1),(Value.int .i64 d2),(Value.int .i64 d3),(Value.int .i64 d4),(Value.int .i64 d5),(Value.slice d6 d8 d7)]⟩ Zl) fun a h=>
 ∃G,h.cell ⟨a,0,none⟩=some (Value.int .i64 G)∧∃H,h.cell ⟨a,1,none⟩=some (Value.int .i64 H)∧∃I,h.cell ⟨a,2,none⟩=some (Value.int .u32 I)∧∃J,h.cell ⟨a,3,none⟩=some (Value.int .u32 J)∧∃K,h.cell ⟨a,4,none⟩=some (Value.int .i64 K)∧∃L,h.cell ⟨a,5,none⟩=some (Value.int .i64 L)∧∃M,h.cell ⟨a,6,none⟩=some (Value.int .i64 M)∧∃N,h.cell ⟨a,7,none⟩=some (Value.int .i64 N)∧∃O Q P,h.cell ⟨a,8,none⟩=some (Value.slice O Q P)∧FnW Tryz.prog Zwl ⟨[(Value.agg ⟨[(Value.int .i64 G),(Value.int .i64 H),(Value.int .u32 I),(Value.int .u32 J),(Value.int .i64 K),(Value.int .i64 L),(Value.int .i64 M),(Value.int .i64 N),(Value.slice O Q P)]⟩)]⟩ h fun e0 e=>
 ∃R,e0=Value.bool R∧
 IfB (!R)
 (v (Value.tuple ⟨[(Value.slice none 0 0),(Value.int .i64 2)]⟩) e)
 (∃e1 S e2,e.cell ⟨a,8,none⟩=some (Value.slice e1 S e2)∧
 IfB (decide (((S:Int):Int)>65495))
 (v (Value.tuple ⟨[(Value.slice none 0 0),(Value.int .i64 3)]⟩) e)
 (∃T,e.cell ⟨a,0,none⟩=some (Value.int .i64 T)∧∃U,e.cell ⟨a,1,none⟩=some (Value.int .i64 U)∧∃V,e.cell ⟨a,2,none⟩=some (Value.int .u32 V)∧∃W,e.cell ⟨a,3,none⟩=some (Value.int .u32 W)∧∃X,e.cell ⟨a,4,none⟩=some (Value.int .i64 X)∧∃Y,e.cell ⟨a,5,none⟩=some (Value.int .i64 Y)∧∃Z,e.cell ⟨a,6,none⟩=some (Value.int .i64 Z)∧∃a0,e.cell ⟨a,7,none⟩=some (Value.int .i64 a0)∧∃a1 a3 a2,e.cell ⟨a,8,none⟩=some (Value.slice a1 a3 a2)∧FnW Tryz.prog Zow ⟨[(Value.agg ⟨[(Value.int .i64 T),(Value.int .i64 U),(Value.int .u32 V),(Value.int .u32 W),(Value.int .i64 X),(Value.int .i64 Y),(Value.int .i64 Z),(Value.int .i64 a0),(Value.slice a1 a3 a2)]⟩)]⟩ e fun e3 A=>
 ∃a4 o a5,e3=Value.slice a4 o a5∧
 ∃e4 a6 e5,A.cell ⟨a,8,none⟩=some (Value.slice e4 a6 e5)∧
 Zcx Tryz.prog Zd (Value.int .i64 20) (Value.int .i64 (IntKind.wrap .i64 ((IntKind.wrap .i64 (20+(o:Int)))+(a6:Int)))) A fun e6 B=>
 ∃c d f,e6=Value.slice c d f∧
 ∃a7,B.cell ⟨a,0,none⟩=some (Value.int .i64 a7)∧
 FnW Tryz.prog Zcu ⟨[(Value.slice c d f),(Value.int .i64 a7)]⟩ B fun e7 C=>
 e7=Value.tuple ⟨[]⟩∧
 InC 2 d fun p=>
 ∃a8,C.cell ⟨a,1,none⟩=some (Value.int .i64 a8)∧
 FnW Tryz.prog Zcu ⟨[(Value.slice (if f=p then c else Option.map (fun g=>Addr.add g (p*1)) c) (d - p) (f - p)),(Value.int .i64 a8)]⟩ C fun e8 D=>
 e8=Value.tuple ⟨[]⟩∧
 InC 4 d fun q=>
 ∃a9,D.cell ⟨a,2,none⟩=some (Value.int .u32 a9)∧
 FnW Tryz.prog Zhz ⟨[(Value.slice (if f=q then c else Option.map (fun g=>Addr.add g (q*1)) c) (d - q) (f - q)),(Value.int .u32 a9)]⟩ D fun e9 E=>
 e9=Value.tuple ⟨[]⟩∧
 InC 8 d fun r=>
 ∃b0,E.cell ⟨a,3,none⟩=some (Value.int .u32 b0)∧
 FnW Tryz.prog Zhz ⟨[(Value.slice (if f=r then c else Option.map (fun g=>Addr.add g (r*1)) c) (d - r) (f - r)),(Value.int .u32 b0)]⟩ E fun f0 n=>
 f0=Value.tuple ⟨[]⟩∧
 ∃i:List Nat,(∀b∈i,∃w,n b=some w)∧
 (4:Int)≠0∧
 (0:Int) <= 4∧
 a∈i∧∃b1,n.cell ⟨a,4,none⟩=some (Value.int .i64 b1)∧
 NilP c fun f3=>
 InB 12 d fun f1=>
 elemAt f3 f1 1 fun f2=>
 Za n f2 (Value.int .u8 (IntKind.wrap .u8 (IntKind.wrap .i64 ((IntKind.wrap .i64 (Int.tdiv (IntKind.wrap .i64 (20+(o:Int))) 4))*2^(min (4:Int).toNat (IntKind.bits .i64)))))) fun F=>
 Zb i n F∧NilP c fun f6=>
 InB 13 d fun f4=>
 elemAt f6 f4 1 fun f5=>
 Za F f5 (Value.int .u8 (IntKind.wrap .u8 b1)) fun x=>
 InC 14 d fun s=>
 ∃b2,x.cell ⟨a,5,none⟩=some (Value.int .i64 b2)∧
 FnW Tryz.prog Zcu ⟨[(Value.slice (if f=s then c else Option.map (fun g=>Addr.add g (s*1)) c) (d - s) (f - s)),(Value.int .i64 b2)]⟩ x fun f7 y=>
 f7=Value.tuple ⟨[]⟩∧
 InC 18 d fun t=>
 ∃b3,y.cell ⟨a,6,none⟩=some (Value.int .i64 b3)∧
 FnW Tryz.prog Zcu ⟨[(Value.slice (if f=t then c else Option.map (fun g=>Addr.add g (t*1)) c) (d - t) (f - t)),(Value.int .i64 b3)]⟩ y fun f8 m=>
 f8=Value.tuple ⟨[]⟩∧
 ∃i:List Nat,(∀b∈i,∃w,m b=some w)∧
 a∈i∧∃b7 b9 b8,m.cell ⟨a,8,none⟩=some (Value.slice b7 b9 b8)∧
 AppW Tryz.prog #[Zd,Zd] Zd [(Value.slice c d f),(Value.slice a4 o a5)] m fun f9 z=>
 ∃b4 b6 b5,f9=Value.slice b4 b6 b5∧
 Zb i m z∧AppW Tryz.prog #[Zd,Zd] Zd [(Value.slice b4 b6 b5),(Value.slice b7 b9 b8)] z fun g0 c3=>
 ∃j l k,g0=Value.slice j l k∧
 InC 16 l fun u=>
 FnW Tryz.prog Zmi ⟨[(Value.int .u32 c7),(Value.int .u32 d9),(Value.slice j l k)]⟩ c3 fun g1 c4=>
 ∃c0,g1=Value.int .u32 c0∧
 FnW Tryz.prog Zqd ⟨[(Value.int .u32 c0)]⟩ c4 fun g2 c5=>
 ∃c1,g2=Value.int .u16 c1∧
 FnW Tryz.prog Zcu ⟨[(Value.slice (if k=u then j else Option.map (fun g=>Addr.add g (u*1)) j) (l - u) (k - u)),(Value.int .i64 (IntKind.wrap .i64 c1))]⟩ c5 fun g3 c6=>
 g3=Value.tuple ⟨[]⟩∧
 v (Value.tuple ⟨[(Value.slice j l k),(Value.int .i64 0)]⟩) c6))
theorem Zbrh (d p e f g h i j k l:Int) (m:Option Addr) (o n:Nat) {a:Heap} {c:Value->Heap->Prop} (r:Zbcm d p e f g h i j k l m o n a fun s q=>∀b,Shut a q b->c s b):FnW Tryz.prog Zmj ⟨[(Value.int .u32 d),(Value.int .u32 p),(Value.agg ⟨[(Value.int .i64 e),(Value.int .i64 f),(Value.int .u32 g),(Value.int .u32 h),(Value.int .i64 i),(Value.int .i64 j),(Value.int .i64 k),(Value.int .i64 l),(Value.slice m o n)]⟩)]⟩ a c:=Zc Tryz.func77 ⟨[(11,[0,1,2,3,4,5,6,7,8,9,10,11,12,13,14],[57]),(14,[0,1,3,4,2,5,6],[75])],[],[],[]⟩ (by kernel_rfl) (by kernel_rfl) r
def Zbmg (c:Nat) (g:Heap) (b:Value->Heap->Prop):Prop:=
 FnW Tryz.prog Zlp ⟨[(Value.pointer (some ⟨c,0,none⟩))]⟩ g fun j a=>
 ∃e,j=Value.bool e∧
 IfB (!e)
 (b (Value.int .i64 0) a)
 (∃f,a.cell ⟨c,5,none⟩=some (Value.pointer f)∧
 FnW Tryz.prog Zjm ⟨[(Value.pointer f)]⟩ a fun i h=>
 ∃d,i=Value.int .i64 d∧
 b (Value.int .i64 d) h)
theorem Zcey (d:Nat) {a:Heap} {c:Value->Heap->Prop} (f:Zbmg d a fun g e=>∀b,Shut a e b->c g b):FnW Tryz.prog Zwo ⟨[(Value.pointer (some ⟨d,0,none⟩))]⟩ a c:=Zc Tryz.func84 ⟨[],[],[],[]⟩ (by kernel_rfl) (by kernel_rfl) f
def Zbme (c:Nat) (g:Int) (f:Heap) (b:Value->Heap->Prop):Prop:=
 FnW Tryz.prog Zlp ⟨[(Value.pointer (some ⟨c,0,none⟩))]⟩ f fun h a=>
 ∃e,h=Value.bool e∧
 IfB (!e)
 (b (Value.int .i64 1) a)
 (∃d,a.cell ⟨c,10,none⟩=some (Value.int .i64 d)∧
 IfB (decide (g<d))
 (b (Value.int .i64 2) a)
 (b (Value.int .i64 0) a))
theorem Zcew (d:Nat) (e:Int) {a:Heap} {c:Value->Heap->Prop} (g:Zbme d e a fun h f=>∀b,Shut a f b->c h b):FnW Tryz.prog Zwm ⟨[(Value.pointer (some ⟨d,0,none⟩)),(Value.int .i64 e)]⟩ a c:=Zc Tryz.func85 ⟨[],[],[],[]⟩ (by kernel_rfl) (by kernel_rfl) g
def Zblj (r s t u v w x y:Int) (z:Option Addr) (B A:Nat) (o:Heap) (q:Value->Heap->Prop):Prop:=
 NewW o (Obj.cells ⟨[(Value.int .i64 r),(Value.int .i64 s),(Value.int .u32 t),(Value.int .u32 u),(Value.int .i64 v),(Value.int .i64 w),(Value.int .i64 x),(Value.int .i64 y),(Value.slice z B A)]⟩ Zl) fun b a=>
 ∃c,a.cell ⟨b,0,none⟩=some (Value.int .i64 c)∧∃d,a.cell ⟨b,1,none⟩=some (Value.int .i64 d)∧∃e,a.cell ⟨b,2,none⟩=some (Value.int .u32 e)∧∃f,a.cell ⟨b,3,none⟩=some (Value.int .u32 f)∧∃g,a.cell ⟨b,4,none⟩=some (Value.int .i64 g)∧∃h,a.cell ⟨b,5,none⟩=some (Value.int .i64 h)∧∃i,a.cell ⟨b,6,none⟩=some (Value.int .i64 i)∧∃j,a.cell ⟨b,7,none⟩=some (Value.int .i64 j)∧∃k m l,a.cell ⟨b,8,none⟩=some (Value.slice k m l)∧FnW Tryz.prog Zmj ⟨[(Value.int .u32 0),(Value.int .u32 0),(Value.agg ⟨[(Value.int .i64 c),(Value.int .i64 d),(Value.int .u32 e),(Value.int .u32 f),(Value.int .i64 g),(Value.int .i64 h),(Value.int .i64 i),(Value.int .i64 j),(Value.slice k m l)]⟩)]⟩ a fun F p=>
 ∃C E D,∃n:Int,F=(Value.tuple ⟨[(Value.slice C E D),(Value.int .i64 n)]⟩)∧
 q (Value.bool (n==0)) p
theorem Zcdx (d e f g h i j k:Int) (l:Option Addr) (n m:Nat) {a:Heap} {c:Value->Heap->Prop} (p:Zblj d e f g h i j k l n m a fun q o=>∀b,Shut a o b->c q b):FnW Tryz.prog Zoy ⟨[(Value.agg ⟨[(Value.int .i64 d),(Value.int .i64 e),(Value.int .u32 f),(Value.int .u32 g),(Value.int .i64 h),(Value.int .i64 i),(Value.int .i64 j),(Value.int .i64 k),(Value.slice l n m)]⟩)]⟩ a c:=Zc Tryz.func86 ⟨[],[],[],[]⟩ (by kernel_rfl) (by kernel_rfl) p
def Zbbw (a:Heap) (b:Value->Heap->Prop):Prop:=
 b (Value.int .i64 0) a
def Ztv (g a:Nat) (e7:Bool) (b:Heap) (h:Value->Heap->Prop):Prop:=
 IfB e7
 (∃k,b.cell ⟨a,0,none⟩=some (Value.int .i64 k)∧∃l,b.cell ⟨a,1,none⟩=some (Value.int .i64 l)∧∃m,b.cell ⟨a,2,none⟩=some (Value.int .u32 m)∧∃n,b.cell ⟨a,3,none⟩=some (Value.int .u32 n)∧∃o,b.cell ⟨a,4,none⟩=some (Value.int .i64 o)∧∃p,b.cell ⟨a,5,none⟩=some (Value.int .i64 p)∧∃q,b.cell ⟨a,6,none⟩=some (Value.int .i64 q)∧∃r,b.cell ⟨a,7,none⟩=some (Value.int .i64 r)∧∃s u t,b.cell ⟨a,8,none⟩=some (Value.slice s u t)∧FnW Tryz.prog Zpa ⟨[(Value.pointer (some ⟨g,0,none⟩)),(Value.agg ⟨[(Value.int .i64 k),(Value.int .i64 l),(Value.int .u32 m),(Value.int .u32 n),(Value.int .i64 o),(Value.int .i64 p),(Value.int .i64 q),(Value.int .i64 r),(Value.slice s u t)]⟩)]⟩ b fun e8 e5=>
 e8=Value.tuple ⟨[]⟩∧
 h (Value.int .i64 0) e5)
 (∃v,b.cell ⟨a,0,none⟩=some (Value.int .i64 v)∧∃w,b.cell ⟨a,1,none⟩=some (Value.int .i64 w)∧∃x,b.cell ⟨a,2,none⟩=some (Value.int .u32 x)∧∃y,b.cell ⟨a,3,none⟩=some (Value.int .u32 y)∧∃z,b.cell ⟨a,4,none⟩=some (Value.int .i64 z)∧∃A,b.cell ⟨a,5,none⟩=some (Value.int .i64 A)∧∃B,b.cell ⟨a,6,none⟩=some (Value.int .i64 B)∧∃C,b.cell ⟨a,7,none⟩=some (Value.int .i64 C)∧∃D F E,b.cell ⟨a,8,none⟩=some (Value.slice D F E)∧FnW Tryz.prog Zco ⟨[(Value.agg ⟨[(Value.int .i64 v),(Value.int .i64 w),(Value.int .u32 x),(Value.int .u32 y),(Value.int .i64 z),(Value.int .i64 A),(Value.int .i64 B),(Value.int .i64 C),(Value.slice D F E)]⟩),(Value.int .i64 4)]⟩ b fun e9 c=>
 ∃G,e9=Value.bool G∧
 IfB G
 (∃H,c.cell ⟨a,0,none⟩=some (Value.int .i64 H)∧∃I,c.cell ⟨a,1,none⟩=some (Value.int .i64 I)∧∃J,c.cell ⟨a,2,none⟩=some (Value.int .u32 J)∧∃K,c.cell ⟨a,3,none⟩=some (Value.int .u32 K)∧∃L,c.cell ⟨a,4,none⟩=some (Value.int .i64 L)∧∃M,c.cell ⟨a,5,none⟩=some (Value.int .i64 M)∧∃N,c.cell ⟨a,6,none⟩=some (Value.int .i64 N)∧∃O,c.cell ⟨a,7,none⟩=some (Value.int .i64 O)∧∃P R Q,c.cell ⟨a,8,none⟩=some (Value.slice P R Q)∧FnW Tryz.prog Zco ⟨[(Value.agg ⟨[(Value.int .i64 H),(Value.int .i64 I),(Value.int .u32 J),(Value.int .u32 K),(Value.int .i64 L),(Value.int .i64 M),(Value.int .i64 N),(Value.int .i64 O),(Value.slice P R Q)]⟩),(Value.int .i64 16)]⟩ c fun f0 j=>
 ∃S,f0=Value.bool S∧
 IfB (!S)
 (h (Value.int .i64 0) j)
 (FnW Tryz.prog Zpb ⟨[(Value.pointer (some ⟨g,0,none⟩))]⟩ j fun f1 e6=>
 ∃T,f1=Value.int .i64 T∧
 h (Value.int .i64 T) e6))
 (∃U,c.cell ⟨a,0,none⟩=some (Value.int .i64 U)∧∃V,c.cell ⟨a,1,none⟩=some (Value.int .i64 V)∧∃W,c.cell ⟨a,2,none⟩=some (Value.int .u32 W)∧∃X,c.cell ⟨a,3,none⟩=some (Value.int .u32 X)∧∃Y,c.cell ⟨a,4,none⟩=some (Value.int .i64 Y)∧∃Z,c.cell ⟨a,5,none⟩=some (Value.int .i64 Z)∧∃a0,c.cell ⟨a,6,none⟩=some (Value.int .i64 a0)∧∃a1,c.cell ⟨a,7,none⟩=some (Value.int .i64 a1)∧∃a2 a4 a3,c.cell ⟨a,8,none⟩=some (Value.slice a2 a4 a3)∧FnW Tryz.prog Zco ⟨[(Value.agg ⟨[(Value.int .i64 U),(Value.int .i64 V),(Value.int .u32 W),(Value.int .u32 X),(Value.int .i64 Y),(Value.int .i64 Z),(Value.int .i64 a0),(Value.int .i64 a1),(Value.slice a2 a4 a3)]⟩),(Value.int .i64 2)]⟩ c fun f2 e=>
 ∃a5,f2=Value.bool a5∧
 IfB (!a5)
 (h (Value.int .i64 0) e)
 (∃a6,e.cell ⟨a,0,none⟩=some (Value.int .i64 a6)∧∃a7,e.cell ⟨a,1,none⟩=some (Value.int .i64 a7)∧∃a8,e.cell ⟨a,2,none⟩=some (Value.int .u32 a8)∧∃a9,e.cell ⟨a,3,none⟩=some (Value.int .u32 a9)∧∃b0,e.cell ⟨a,4,none⟩=some (Value.int .i64 b0)∧∃b1,e.cell ⟨a,5,none⟩=some (Value.int .i64 b1)∧∃b2,e.cell ⟨a,6,none⟩=some (Value.int .i64 b2)∧∃b3,e.cell ⟨a,7,none⟩=some (Value.int .i64 b3)∧∃b4 b6 b5,e.cell ⟨a,8,none⟩=some (Value.slice b4 b6 b5)∧FnW Tryz.prog Zmk ⟨[(Value.pointer (some ⟨g,0,none⟩)),(Value.agg ⟨[(Value.int .i64 a6),(Value.int .i64 a7),(Value.int .u32 a8),(Value.int .u32 a9),(Value.int .i64 b0),(Value.int .i64 b1),(Value.int .i64 b2),(Value.int .i64 b3),(Value.slice b4 b6 b5)]⟩)]⟩ e fun f3 f=>
 f3=Value.tuple ⟨[]⟩∧
 ∃b7,f.cell ⟨a,0,none⟩=some (Value.int .i64 b7)∧∃b8,f.cell ⟨a,1,none⟩=some (Value.int .i64 b8)∧∃b9,f.cell ⟨a,2,none⟩=some (Value.int .u32 b9)∧∃c0,f.cell ⟨a,3,none⟩=some (Value.int .u32 c0)∧∃c1,f.cell ⟨a,4,none⟩=some (Value.int .i64 c1)∧∃c2,f.cell ⟨a,5,none⟩=some (Value.int .i64 c2)∧∃c3,f.cell ⟨a,6,none⟩=some (Value.int .i64 c3)∧∃c4,f.cell ⟨a,7,none⟩=some (Value.int .i64 c4)∧∃c5 c7 c6,f.cell ⟨a,8,none⟩=some (Value.slice c5 c7 c6)∧FnW Tryz.prog Zco ⟨[(Value.agg ⟨[(Value.int .i64 b7),(Value.int .i64 b8),(Value.int .u32 b9),(Value.int .u32 c0),(Value.int .i64 c1),(Value.int .i64 c2),(Value.int .i64 c3),(Value.int .i64 c4),(Value.slice c5 c7 c6)]⟩),(Value.int .i64 16)]⟩ f fun f4 d=>
 ∃c8,f4=Value.bool c8∧
 IfB (!c8)
 (Za d ⟨g,0,none⟩ (Value.int .i64 2) fun e1=>
 FnW Tryz.prog Zlz ⟨[(Value.pointer (some ⟨g,0,none⟩))]⟩ e1 fun f5 e2=>
 f5=Value.tuple ⟨[]⟩∧
 h (Value.int .i64 0) e2)
 (∃c9,d.cell ⟨a,0,none⟩=some (Value.int .i64 c9)∧∃d0,d.cell ⟨a,1,none⟩=some (Value.int .i64 d0)∧∃d1,d.cell ⟨a,2,none⟩=some (Value.int .u32 d1)∧∃d2,d.cell ⟨a,3,none⟩=some (Value.int .u32 d2)∧∃d3,d.cell ⟨a,4,none⟩=some (Value.int .i64 d3)∧∃d4,d.cell ⟨a,5,none⟩=some (Value.int .i64 d4)∧∃d5,d.cell ⟨a,6,none⟩=some (Value.int .i64 d5)∧∃d6,d.cell ⟨a,7,none⟩=some (Value.int .i64 d6)∧∃d7 d9 d8,d.cell ⟨a,8,none⟩=some (Value.slice d7 d9 d8)∧FnW Tryz.prog Zpc ⟨[(Value.pointer (some ⟨g,0,none⟩)),(Value.agg ⟨[(Value.int .i64 c9),(Value.int .i64 d0),(Value.int .u32 d1),(Value.int .u32 d2),(Value.int .i64 d3),(Value.int .i64 d4),(Value.int .i64 d5),(Value.int .i64 d6),(Value.slice d7 d9 d8)]⟩)]⟩ d fun f6 e3=>
 f6=Value.tuple ⟨[]⟩∧
 FnW Tryz.prog Zps ⟨[(Value.pointer (some ⟨g,0,none⟩))]⟩ e3 fun f7 i=>
 f7=Value.tuple ⟨[]⟩∧
 ∃f8 e0 f9,i.cell ⟨g,12,none⟩=some (Value.slice f8 e0 f9)∧
 IfB (((e0:Int):Int)==0)
 (FnW Tryz.prog Zpd ⟨[(Value.pointer (some ⟨g,0,none⟩))]⟩ i fun g0 e4=>
 g0=Value.tuple ⟨[]⟩∧
 Zbbw e4 h)
 (Zbbw i h)))))
def Zbox (f:Nat) (z A B C D E F G:Int) (H:Option Addr) (J I:Nat) (x:Heap) (h:Value->Heap->Prop):Prop:=
 NewW x (Obj.cells ⟨[(Value.int .i64 z),(Value.int .i64 A),(Value.int .u32 B),(Value.int .u32 C),(Value.int .i64 D),(Value.int .i64 E),(Value.int .i64 F),(Value.int .i64 G),(Value.slice H J I)]⟩ Zl) fun c a=>
 ∃e:List Nat,(∀b∈e,∃y,a b=some y)∧
 ∃k,a.cell ⟨c,0,none⟩=some (Value.int .i64 k)∧∃l,a.cell ⟨c,1,none⟩=some (Value.int .i64 l)∧∃m,a.cell ⟨c,2,none⟩=some (Value.int .u32 m)∧∃n,a.cell ⟨c,3,none⟩=some (Value.int .u32 n)∧∃o,a.cell ⟨c,4,none⟩=some (Value.int .i64 o)∧∃p,a.cell ⟨c,5,none⟩=some (Value.int .i64 p)∧∃q,a.cell ⟨c,6,none⟩=some (Value.int .i64 q)∧∃r,a.cell ⟨c,7,none⟩=some (Value.int .i64 r)∧∃s u t,a.cell ⟨c,8,none⟩=some (Value.slice s u t)∧FnW Tryz.prog Zco ⟨[(Value.agg ⟨[(Value.int .i64 k),(Value.int .i64 l),(Value.int .u32 m),(Value.int .u32 n),(Value.int .i64 o),(Value.int .i64 p),(Value.int .i64 q),(Value.int .i64 r),(Value.slice s u t)]⟩),(Value.int .i64 16)]⟩ a fun L d=>
 ∃v,L=Value.bool v∧
 Zb e a d∧IfB v
 (c∈e∧∃w,a.cell ⟨c,3,none⟩=some (Value.int .u32 w)∧
 ∃i,d.cell ⟨f,3,none⟩=some (Value.int .u32 i)∧
 FnW Tryz.prog Zdm ⟨[(Value.int .u32 i),(Value.int .i64 1)]⟩ d fun K g=>
 ∃j,K=Value.int .u32 j∧
 Zb e a g∧Ztv f c (w !=j) g h)
 (Ztv f c false d h)
theorem Zchj (d:Nat) (e f g h i j k l:Int) (m:Option Addr) (o n:Nat) {a:Heap} {c:Value->Heap->Prop} (q:Zbox d e f g h i j k l m o n a fun r p=>∀b,Shut a p b->c r b):FnW Tryz.prog Zxv ⟨[(Value.pointer (some ⟨d,0,none⟩)),(Value.agg ⟨[(Value.int .i64 e),(Value.int .i64 f),(Value.int .u32 g),(Value.int .u32 h),(Value.int .i64 i),(Value.int .i64 j),(Value.int .i64 k),(Value.int .i64 l),(Value.slice m o n)]⟩)]⟩ a c:=Zc Tryz.func87 ⟨[(1,[0,1,2,3,4,5,6,7,8,9,10,11],[9])],[],[],[]⟩ (by kernel_rfl) (by kernel_rfl) q
def Zbbx (a:Heap) (b:Value->Heap->Prop):Prop:=
 b (Value.int .i64 0) a
def Zla (d:Nat) (b:Heap) (c:Value->Heap->Prop):Prop:=
 FnW Tryz.prog Zpd ⟨[(Value.pointer (some ⟨d,0,none⟩))]⟩ b fun e a=>
 e=Value.tuple ⟨[]⟩∧
 Zbbx a c
def Ztz (c:Nat) (d:Bool) (a:Heap) (b:Value->Heap->Prop):Prop:=
 IfB d
 (b (Value.int .i64 0) a)
 (Zla c a b)
def Zty (d a:Nat) (b:Heap) (e:Value->Heap->Prop):Prop:=
 ∃f,b.cell ⟨d,0,none⟩=some (Value.int .i64 f)∧
 IfB (f==0)
 (e (Value.int .i64 0) b)
 (∃g,b.cell ⟨a,0,none⟩=some (Value.int .i64 g)∧∃h,b.cell ⟨a,1,none⟩=some (Value.int .i64 h)∧∃i,b.cell ⟨a,2,none⟩=some (Value.int .u32 i)∧∃j,b.cell ⟨a,3,none⟩=some (Value.int .u32 j)∧∃k,b.cell ⟨a,4,none⟩=some (Value.int .i64 k)∧∃l,b.cell ⟨a,5,none⟩=some (Value.int .i64 l)∧∃m,b.cell ⟨a,6,none⟩=some (Value.int .i64 m)∧∃n,b.cell ⟨a,7,none⟩=some (Value.int .i64 n)∧∃o q p,b.cell ⟨a,8,none⟩=some (Value.slice o q p)∧FnW Tryz.prog Zxl ⟨[(Value.pointer (some ⟨d,0,none⟩)),(Value.agg ⟨[(Value.int .i64 g),(Value.int .i64 h),(Value.int .u32 i),(Value.int .u32 j),(Value.int .i64 k),(Value.int .i64 l),(Value.int .i64 m),(Value.int .i64 n),(Value.slice o q p)]⟩)]⟩ b fun G E=>
 G=Value.tuple ⟨[]⟩∧
 FnW Tryz.prog Zps ⟨[(Value.pointer (some ⟨d,0,none⟩))]⟩ E fun H c=>
 H=Value.tuple ⟨[]⟩∧
 ∃I r J,c.cell ⟨d,12,none⟩=some (Value.slice I r J)∧
 IfB (decide (((r:Int):Int)>0))
 (Ztz d true c e)
 (∃s,c.cell ⟨a,0,none⟩=some (Value.int .i64 s)∧∃t,c.cell ⟨a,1,none⟩=some (Value.int .i64 t)∧∃u,c.cell ⟨a,2,none⟩=some (Value.int .u32 u)∧∃v,c.cell ⟨a,3,none⟩=some (Value.int .u32 v)∧∃w,c.cell ⟨a,4,none⟩=some (Value.int .i64 w)∧∃x,c.cell ⟨a,5,none⟩=some (Value.int .i64 x)∧∃y,c.cell ⟨a,6,none⟩=some (Value.int .i64 y)∧∃z,c.cell ⟨a,7,none⟩=some (Value.int .i64 z)∧∃A C B,c.cell ⟨a,8,none⟩=some (Value.slice A C B)∧FnW Tryz.prog Zjq ⟨[(Value.agg ⟨[(Value.int .i64 s),(Value.int .i64 t),(Value.int .u32 u),(Value.int .u32 v),(Value.int .i64 w),(Value.int .i64 x),(Value.int .i64 y),(Value.int .i64 z),(Value.slice A C B)]⟩)]⟩ c fun K F=>
 ∃D,K=Value.int .i64 D∧
 Ztz d (D==0) F e))
def Zft (g a:Nat) (c5:Bool) (f:Heap) (h:Value->Heap->Prop):Prop:=
 IfB c5
 (Zla g f h)
 (∃k,f.cell ⟨a,0,none⟩=some (Value.int .i64 k)∧∃l,f.cell ⟨a,1,none⟩=some (Value.int .i64 l)∧∃m,f.cell ⟨a,2,none⟩=some (Value.int .u32 m)∧∃n,f.cell ⟨a,3,none⟩=some (Value.int .u32 n)∧∃o,f.cell ⟨a,4,none⟩=some (Value.int .i64 o)∧∃p,f.cell ⟨a,5,none⟩=some (Value.int .i64 p)∧∃q,f.cell ⟨a,6,none⟩=some (Value.int .i64 q)∧∃r,f.cell ⟨a,7,none⟩=some (Value.int .i64 r)∧∃s u t,f.cell ⟨a,8,none⟩=some (Value.slice s u t)∧FnW Tryz.prog Zco ⟨[(Value.agg ⟨[(Value.int .i64 k),(Value.int .i64 l),(Value.int .u32 m),(Value.int .u32 n),(Value.int .i64 o),(Value.int .i64 p),(Value.int .i64 q),(Value.int .i64 r),(Value.slice s u t)]⟩),(Value.int .i64 4)]⟩ f fun c6 e=>
 ∃v,c6=Value.bool v∧
 IfB v
 (FnW Tryz.prog Zpb ⟨[(Value.pointer (some ⟨g,0,none⟩))]⟩ e fun c7 c1=>
 ∃w,c7=Value.int .i64 w∧
 h (Value.int .i64 w) c1)
 (∃x,e.cell ⟨a,0,none⟩=some (Value.int .i64 x)∧∃y,e.cell ⟨a,1,none⟩=some (Value.int .i64 y)∧∃z,e.cell ⟨a,2,none⟩=some (Value.int .u32 z)∧∃A,e.cell ⟨a,3,none⟩=some (Value.int .u32 A)∧∃B,e.cell ⟨a,4,none⟩=some (Value.int .i64 B)∧∃C,e.cell ⟨a,5,none⟩=some (Value.int .i64 C)∧∃D,e.cell ⟨a,6,none⟩=some (Value.int .i64 D)∧∃E,e.cell ⟨a,7,none⟩=some (Value.int .i64 E)∧∃F H G,e.cell ⟨a,8,none⟩=some (Value.slice F H G)∧FnW Tryz.prog Zco ⟨[(Value.agg ⟨[(Value.int .i64 x),(Value.int .i64 y),(Value.int .u32 z),(Value.int .u32 A),(Value.int .i64 B),(Value.int .i64 C),(Value.int .i64 D),(Value.int .i64 E),(Value.slice F H G)]⟩),(Value.int .i64 16)]⟩ e fun c8 d=>
 ∃I,c8=Value.bool I∧
 IfB (!I)
 (h (Value.int .i64 0) d)
 (∃J,d.cell ⟨g,0,none⟩=some (Value.int .i64 J)∧
 IfB (J !=2)
 (∃K,d.cell ⟨a,0,none⟩=some (Value.int .i64 K)∧∃L,d.cell ⟨a,1,none⟩=some (Value.int .i64 L)∧∃M,d.cell ⟨a,2,none⟩=some (Value.int .u32 M)∧∃N,d.cell ⟨a,3,none⟩=some (Value.int .u32 N)∧∃O,d.cell ⟨a,4,none⟩=some (Value.int .i64 O)∧∃P,d.cell ⟨a,5,none⟩=some (Value.int .i64 P)∧∃Q,d.cell ⟨a,6,none⟩=some (Value.int .i64 Q)∧∃R,d.cell ⟨a,7,none⟩=some (Value.int .i64 R)∧∃S U T,d.cell ⟨a,8,none⟩=some (Value.slice S U T)∧FnW Tryz.prog Zwh ⟨[(Value.pointer (some ⟨g,0,none⟩)),(Value.agg ⟨[(Value.int .i64 K),(Value.int .i64 L),(Value.int .u32 M),(Value.int .u32 N),(Value.int .i64 O),(Value.int .i64 P),(Value.int .i64 Q),(Value.int .i64 R),(Value.slice S U T)]⟩)]⟩ d fun c9 j=>
 ∃V,c9=Value.bool V∧
 IfB (!V)
 (Zla g j h)
 (Zty g a j h))
 (∃i:List Nat,(∀b∈i,∃c4,d b=some c4)∧
 a∈i∧∃W,d.cell ⟨a,3,none⟩=some (Value.int .u32 W)∧
 ∃X,d.cell ⟨g,3,none⟩=some (Value.int .u32 X)∧
 FnW Tryz.prog Zdm ⟨[(Value.int .u32 X),(Value.int .i64 1)]⟩ d fun d0 c=>
 ∃Y,d0=Value.int .u32 Y∧
 Zb i d c∧IfB (W !=Y)
 (∃Z,c.cell ⟨a,0,none⟩=some (Value.int .i64 Z)∧∃a0,c.cell ⟨a,1,none⟩=some (Value.int .i64 a0)∧∃a1,c.cell ⟨a,2,none⟩=some (Value.int .u32 a1)∧∃a2,c.cell ⟨a,3,none⟩=some (Value.int .u32 a2)∧∃a3,c.cell ⟨a,4,none⟩=some (Value.int .i64 a3)∧∃a4,c.cell ⟨a,5,none⟩=some (Value.int .i64 a4)∧∃a5,c.cell ⟨a,6,none⟩=some (Value.int .i64 a5)∧∃a6,c.cell ⟨a,7,none⟩=some (Value.int .i64 a6)∧∃a7 a9 a8,c.cell ⟨a,8,none⟩=some (Value.slice a7 a9 a8)∧FnW Tryz.prog Zpa ⟨[(Value.pointer (some ⟨g,0,none⟩)),(Value.agg ⟨[(Value.int .i64 Z),(Value.int .i64 a0),(Value.int .u32 a1),(Value.int .u32 a2),(Value.int .i64 a3),(Value.int .i64 a4),(Value.int .i64 a5),(Value.int .i64 a6),(Value.slice a7 a9 a8)]⟩)]⟩ c fun d1 c2=>
 d1=Value.tuple ⟨[]⟩∧
 h (Value.int .i64 0) c2)
 (∃b0,c.cell ⟨a,0,none⟩=some (Value.int .i64 b0)∧∃b1,c.cell ⟨a,1,none⟩=some (Value.int .i64 b1)∧∃b2,c.cell ⟨a,2,none⟩=some (Value.int .u32 b2)∧∃b3,c.cell ⟨a,3,none⟩=some (Value.int .u32 b3)∧∃b4,c.cell ⟨a,4,none⟩=some (Value.int .i64 b4)∧∃b5,c.cell ⟨a,5,none⟩=some (Value.int .i64 b5)∧∃b6,c.cell ⟨a,6,none⟩=some (Value.int .i64 b6)∧∃b7,c.cell ⟨a,7,none⟩=some (Value.int .i64 b7)∧∃b8 c0 b9,c.cell ⟨a,8,none⟩=some (Value.slice b8 c0 b9)∧FnW Tryz.prog Zpc ⟨[(Value.pointer (some ⟨g,0,none⟩)),(Value.agg ⟨[(Value.int .i64 b0),(Value.int .i64 b1),(Value.int .u32 b2),(Value.int .u32 b3),(Value.int .i64 b4),(Value.int .i64 b5),(Value.int .i64 b6),(Value.int .i64 b7),(Value.slice b8 c0 b9)]⟩)]⟩ c fun d2 c3=>
 d2=Value.tuple ⟨[]⟩∧
 Zty g a c3 h)))))
def Ztx (g a:Nat) (b3 b4:Bool) (d:Heap) (h:Value->Heap->Prop):Prop:=
 IfB b4
 (h (Value.int .i64 0) d)
 (∃f:List Nat,(∀b∈f,∃b2,d b=some b2)∧
 IfB (!b3)
 (Zft g a true d h)
 (∃m,d.cell ⟨a,0,none⟩=some (Value.int .i64 m)∧∃n,d.cell ⟨a,1,none⟩=some (Value.int .i64 n)∧∃o,d.cell ⟨a,2,none⟩=some (Value.int .u32 o)∧∃p,d.cell ⟨a,3,none⟩=some (Value.int .u32 p)∧∃q,d.cell ⟨a,4,none⟩=some (Value.int .i64 q)∧∃r,d.cell ⟨a,5,none⟩=some (Value.int .i64 r)∧∃s,d.cell ⟨a,6,none⟩=some (Value.int .i64 s)∧∃t,d.cell ⟨a,7,none⟩=some (Value.int .i64 t)∧∃u w v,d.cell ⟨a,8,none⟩=some (Value.slice u w v)∧FnW Tryz.prog Zco ⟨[(Value.agg ⟨[(Value.int .i64 m),(Value.int .i64 n),(Value.int .u32 o),(Value.int .u32 p),(Value.int .i64 q),(Value.int .i64 r),(Value.int .i64 s),(Value.int .i64 t),(Value.slice u w v)]⟩),(Value.int .i64 2)]⟩ d fun b5 c=>
 ∃x,b5=Value.bool x∧
 Zb f d c∧IfB x
 (∃y,c.cell ⟨a,0,none⟩=some (Value.int .i64 y)∧∃z,c.cell ⟨a,1,none⟩=some (Value.int .i64 z)∧∃A,c.cell ⟨a,2,none⟩=some (Value.int .u32 A)∧∃B,c.cell ⟨a,3,none⟩=some (Value.int .u32 B)∧∃C,c.cell ⟨a,4,none⟩=some (Value.int .i64 C)∧∃D,c.cell ⟨a,5,none⟩=some (Value.int .i64 D)∧∃E,c.cell ⟨a,6,none⟩=some (Value.int .i64 E)∧∃F,c.cell ⟨a,7,none⟩=some (Value.int .i64 F)∧∃G I H,c.cell ⟨a,8,none⟩=some (Value.slice G I H)∧FnW Tryz.prog Zco ⟨[(Value.agg ⟨[(Value.int .i64 y),(Value.int .i64 z),(Value.int .u32 A),(Value.int .u32 B),(Value.int .i64 C),(Value.int .i64 D),(Value.int .i64 E),(Value.int .i64 F),(Value.slice G I H)]⟩),(Value.int .i64 4)]⟩ c fun b6 e=>
 ∃J,b6=Value.bool J∧
 Zb f d e∧IfB (!J)
 (Zft g a true e h)
 (∃K,e.cell ⟨a,0,none⟩=some (Value.int .i64 K)∧∃M,e.cell ⟨a,1,none⟩=some (Value.int .i64 M)∧∃O,e.cell ⟨a,2,none⟩=some (Value.int .u32 O)∧∃Q,e.cell ⟨a,3,none⟩=some (Value.int .u32 Q)∧∃S,e.cell ⟨a,4,none⟩=some (Value.int .i64 S)∧∃U,e.cell ⟨a,5,none⟩=some (Value.int .i64 U)∧∃W,e.cell ⟨a,6,none⟩=some (Value.int .i64 W)∧∃Y,e.cell ⟨a,7,none⟩=some (Value.int .i64 Y)∧∃a0 a4 a2,e.cell ⟨a,8,none⟩=some (Value.slice a0 a4 a2)∧FnW Tryz.prog Zco ⟨[(Value.agg ⟨[(Value.int .i64 K),(Value.int .i64 M),(Value.int .u32 O),(Value.int .u32 Q),(Value.int .i64 S),(Value.int .i64 U),(Value.int .i64 W),(Value.int .i64 Y),(Value.slice a0 a4 a2)]⟩),(Value.int .i64 4)]⟩ e fun b7 i=>
 ∃a6,b7=Value.bool a6∧
 Zb f d i∧IfB a6
 (a∈f∧∃a8,d.cell ⟨a,2,none⟩=some (Value.int .u32 a8)∧
 FnW Tryz.prog Zid ⟨[(Value.pointer (some ⟨g,0,none⟩))]⟩ i fun b9 k=>
 ∃b0,b9=Value.int .u32 b0∧
 Zb f d k∧Zft g a (a8 !=b0) k h)
 (Zft g a false i h)))
 (∃L,c.cell ⟨a,0,none⟩=some (Value.int .i64 L)∧∃N,c.cell ⟨a,1,none⟩=some (Value.int .i64 N)∧∃P,c.cell ⟨a,2,none⟩=some (Value.int .u32 P)∧∃R,c.cell ⟨a,3,none⟩=some (Value.int .u32 R)∧∃T,c.cell ⟨a,4,none⟩=some (Value.int .i64 T)∧∃V,c.cell ⟨a,5,none⟩=some (Value.int .i64 V)∧∃X,c.cell ⟨a,6,none⟩=some (Value.int .i64 X)∧∃Z,c.cell ⟨a,7,none⟩=some (Value.int .i64 Z)∧∃a1 a5 a3,c.cell ⟨a,8,none⟩=some (Value.slice a1 a5 a3)∧FnW Tryz.prog Zco ⟨[(Value.agg ⟨[(Value.int .i64 L),(Value.int .i64 N),(Value.int .u32 P),(Value.int .u32 R),(Value.int .i64 T),(Value.int .i64 V),(Value.int .i64 X),(Value.int .i64 Z),(Value.slice a1 a5 a3)]⟩),(Value.int .i64 4)]⟩ c fun b8 j=>
 ∃a7,b8=Value.bool a7∧
 Zb f d j∧IfB a7
 (a∈f∧∃a9,d.cell ⟨a,2,none⟩=some (Value.int .u32 a9)∧
 FnW Tryz.prog Zid ⟨[(Value.pointer (some ⟨g,0,none⟩))]⟩ j fun c0 l=>
 ∃b1,c0=Value.int .u32 b1∧
 Zb f d l∧Zft g a (a9 !=b1) l h)
 (Zft g a false j h))))
def Zbpb (f:Nat) (Q R S T U V W X:Int) (Y:Option Addr) (a0 Z:Nat) (N:Heap) (k:Value->Heap->Prop):Prop:=
 NewW N (Obj.cells ⟨[(Value.int .i64 Q),(Value.int .i64 R),(Value.int .u32 S),(Value.int .u32 T),(Value.int .i64 U),(Value.int .i64 V),(Value.int .i64 W),(Value.int .i64 X),(Value.slice Y a0 Z)]⟩ Zl) fun a c=>
 ∃e:List Nat,(∀b∈e,∃P,c b=some P)∧
 f∈e∧∃l,c.cell ⟨f,5,none⟩=some (Value.pointer l)∧
 a∈e∧∃n,c.cell ⟨a,2,none⟩=some (Value.int .u32 n)∧
 a∈e∧∃o,c.cell ⟨a,0,none⟩=some (Value.int .i64 o)∧∃p,c.cell ⟨a,1,none⟩=some (Value.int .i64 p)∧∃q,c.cell ⟨a,2,none⟩=some (Value.int .u32 q)∧∃r,c.cell ⟨a,3,none⟩=some (Value.int .u32 r)∧∃s,c.cell ⟨a,4,none⟩=some (Value.int .i64 s)∧∃t,c.cell ⟨a,5,none⟩=some (Value.int .i64 t)∧∃u,c.cell ⟨a,6,none⟩=some (Value.int .i64 u)∧∃v,c.cell ⟨a,7,none⟩=some (Value.int .i64 v)∧∃w y x,c.cell ⟨a,8,none⟩=some (Value.slice w y x)∧FnW Tryz.prog Zid ⟨[(Value.pointer (some ⟨f,0,none⟩))]⟩ c fun a6 h=>
 ∃M,a6=Value.int .u32 M∧
 Zb e c h∧FnW Tryz.prog Zlr ⟨[(Value.pointer l)]⟩ h fun a1 i=>
 ∃m,a1=Value.int .i64 m∧
 Zb e c i∧FnW Tryz.prog Zjq ⟨[(Value.agg ⟨[(Value.int .i64 o),(Value.int .i64 p),(Value.int .u32 q),(Value.int .u32 r),(Value.int .i64 s),(Value.int .i64 t),(Value.int .i64 u),(Value.int .i64 v),(Value.slice w y x)]⟩)]⟩ i fun a2 j=>
 ∃z,a2=Value.int .i64 z∧
 Zb e c j∧FnW Tryz.prog Zxy ⟨[(Value.int .u32 M),(Value.int .i64 m),(Value.int .u32 n),(Value.int .i64 z)]⟩ j fun a4 d=>
 ∃g,∃a3:Int,a4=(Value.tuple ⟨[(Value.bool g),(Value.int .i64 a3)]⟩)∧
 Zb e c d∧IfB (!g)
 (∃A,d.cell ⟨a,0,none⟩=some (Value.int .i64 A)∧∃B,d.cell ⟨a,1,none⟩=some (Value.int .i64 B)∧∃C,d.cell ⟨a,2,none⟩=some (Value.int .u32 C)∧∃D,d.cell ⟨a,3,none⟩=some (Value.int .u32 D)∧∃E,d.cell ⟨a,4,none⟩=some (Value.int .i64 E)∧∃F,d.cell ⟨a,5,none⟩=some (Value.int .i64 F)∧∃G,d.cell ⟨a,6,none⟩=some (Value.int .i64 G)∧∃H,d.cell ⟨a,7,none⟩=some (Value.int .i64 H)∧∃I K J,d.cell ⟨a,8,none⟩=some (Value.slice I K J)∧FnW Tryz.prog Zco ⟨[(Value.agg ⟨[(Value.int .i64 A),(Value.int .i64 B),(Value.int .u32 C),(Value.int .u32 D),(Value.int .i64 E),(Value.int .i64 F),(Value.int .i64 G),(Value.int .i64 H),(Value.slice I K J)]⟩),(Value.int .i64 4)]⟩ d fun a5 O=>
 ∃L,a5=Value.bool L∧
 Ztx f a g L O k)
 (Ztx f a g false d k)
theorem Zchm (d:Nat) (e f g h i j k l:Int) (m:Option Addr) (o n:Nat) {a:Heap} {c:Value->Heap->Prop} (q:Zbpb d e f g h i j k l m o n a fun r p=>∀b,Shut a p b->c r b):FnW Tryz.prog Zxq ⟨[(Value.pointer (some ⟨d,0,none⟩)),(Value.agg ⟨[(Value.int .i64 e),(Value.int .i64 f),(Value.int .u32 g),(Value.int .u32 h),(Value.int .i64 i),(Value.int .i64 j),(Value.int .i64 k),(Value.int .i64 l),(Value.slice m o n)]⟩)]⟩ a c:=Zc Tryz.func88 ⟨[(1,[0,2,3,4,5,7,8,9,1,6,10,11,12,13,14,15,16],[13,16,17]),(3,[0,1,2,3,4,5,6,7,8,9,10,11,12,13,14,15,16,17,18,19,20,21],[44]),(9,[0,1,2,3,4,5,6,7],[67])],[],[],[]⟩ (by kernel_rfl) (by kernel_rfl) q
def Zuo (a d:Nat) (b:Heap) (I:Value->Heap->Prop):Prop:=
 ∃p,b.cell ⟨d,0,none⟩=some (Value.int .i64 p)∧∃q,b.cell ⟨d,1,none⟩=some (Value.int .i64 q)∧∃r,b.cell ⟨d,2,none⟩=some (Value.int .u32 r)∧∃s,b.cell ⟨d,3,none⟩=some (Value.int .u32 s)∧∃t,b.cell ⟨d,4,none⟩=some (Value.int .i64 t)∧∃u,b.cell ⟨d,5,none⟩=some (Value.int .i64 u)∧∃v,b.cell ⟨d,6,none⟩=some (Value.int .i64 v)∧∃w,b.cell ⟨d,7,none⟩=some (Value.int .i64 w)∧∃x z y,b.cell ⟨d,8,none⟩=some (Value.slice x z y)∧Za b ⟨a,0,none⟩ (Value.int .i64 p) fun A=>
 Za A ⟨a,1,none⟩ (Value.int .i64 q) fun B=>
 Za B ⟨a,2,none⟩ (Value.int .u32 r) fun C=>
 Za C ⟨a,3,none⟩ (Value.int .u32 s) fun D=>
 Za D ⟨a,4,none⟩ (Value.int .i64 t) fun E=>
 Za E ⟨a,5,none⟩ (Value.int .i64 u) fun F=>
 Za F ⟨a,6,none⟩ (Value.int .i64 v) fun G=>
 Za G ⟨a,7,none⟩ (Value.int .i64 w) fun H=>
 Za H ⟨a,8,none⟩ (Value.slice x z y) fun c=>
 ∃e,c.cell ⟨a,0,none⟩=some (Value.int .i64 e)∧∃f,c.cell ⟨a,1,none⟩=some (Value.int .i64 f)∧∃g,c.cell ⟨a,2,none⟩=some (Value.int .u32 g)∧∃h,c.cell ⟨a,3,none⟩=some (Value.int .u32 h)∧∃i,c.cell ⟨a,4,none⟩=some (Value.int .i64 i)∧∃j,c.cell ⟨a,5,none⟩=some (Value.int .i64 j)∧∃k,c.cell ⟨a,6,none⟩=some (Value.int .i64 k)∧∃l,c.cell ⟨a,7,none⟩=some (Value.int .i64 l)∧∃m o n,c.cell ⟨a,8,none⟩=some (Value.slice m o n)∧I (Value.tuple ⟨[(Value.agg ⟨[(Value.int .i64 e),(Value.int .i64 f),(Value.int .u32 g),(Value.int .u32 h),(Value.int .i64 i),(Value.int .i64 j),(Value.int .i64 k),(Value.int .i64 l),(Value.slice m o n)]⟩),(Value.bool true)]⟩) c
def Zbqk (d7 d8 d9 e0 e1 e2 e3 e4:Int) (e5:Option Addr) (e7 e6:Nat) (b4:Heap) (k:Value->Heap->Prop):Prop:=
 NewW b4 (Obj.cells ⟨[(Value.int .i64 d7),(Value.int .i64 d8),(Value.int .u32 d9),(Value.int .u32 e0),(Value.int .i64 e1),(Value.int .i64 e2),(Value.int .i64 e3),(Value.int .i64 e4),(Value.slice e5 e7 e6)]⟩ Zl) fun a b5=>
 NewW b5 (Obj.cells ⟨[(Value.int .i64 0),(Value.int .i64 0),(Value.int .u32 0),(Value.int .u32 0),(Value.int .i64 0),(Value.int .i64 0),(Value.int .i64 0),(Value.int .i64 0),(Value.slice none 0 0)]⟩ Zl) fun c j=>
 ∃b2,j.cell ⟨a,1,none⟩=some (Value.int .i64 b2)∧
 ∃b3,j.cell ⟨a,0,none⟩=some (Value.int .i64 b3)∧
 NewW j (Obj.cells ⟨[(Value.int .i64 0),(Value.int .i64 0),(Value.int .u32 0),(Value.int .u32 0),(Value.int .i64 0),(Value.int .i64 0),(Value.int .i64 0),(Value.int .i64 0),(Value.slice none 0 0)]⟩ Zl) fun d c7=>
 Za c7 ⟨d,0,none⟩ (Value.int .i64 b2) fun d0=>
 Za d0 ⟨d,1,none⟩ (Value.int .i64 b3) fun d1=>
 Za d1 ⟨d,2,none⟩ (Value.int .u32 0) fun d2=>
 Za d2 ⟨d,3,none⟩ (Value.int .u32 0) fun d3=>
 Za d3 ⟨d,4,none⟩ (Value.int .i64 4) fun d4=>
 Za d4 ⟨d,5,none⟩ (Value.int .i64 0) fun d5=>
 Za d5 ⟨d,6,none⟩ (Value.int .i64 0) fun b6=>
 Za b6 ⟨d,7,none⟩ (Value.int .i64 0) fun b7=>
 Za b7 ⟨d,8,none⟩ (Value.slice none 0 0) fun g=>
 ∃N,g.cell ⟨a,0,none⟩=some (Value.int .i64 N)∧∃O,g.cell ⟨a,1,none⟩=some (Value.int .i64 O)∧∃P,g.cell ⟨a,2,none⟩=some (Value.int .u32 P)∧∃Q,g.cell ⟨a,3,none⟩=some (Value.int .u32 Q)∧∃R,g.cell ⟨a,4,none⟩=some (Value.int .i64 R)∧∃S,g.cell ⟨a,5,none⟩=some (Value.int .i64 S)∧∃T,g.cell ⟨a,6,none⟩=some (Value.int .i64 T)∧∃U,g.cell ⟨a,7,none⟩=some (Value.int .i64 U)∧∃V X W,g.cell ⟨a,8,none⟩=some (Value.slice V X W)∧FnW Tryz.prog Zjf ⟨[(Value.agg ⟨[(Value.int .i64 N),(Value.int .i64 O),(Value.int .u32 P),(Value.int .u32 Q),(Value.int .i64 R),(Value.int .i64 S),(Value.int .i64 T),(Value.int .i64 U),(Value.slice V X W)]⟩),(Value.int .i64 2)]⟩ g fun f0 f=>
 ∃Y,f0=Value.bool Y∧
 IfB Y
 (Za f ⟨c,0,none⟩ (Value.int .i64 0) fun b8=>
 Za b8 ⟨c,1,none⟩ (Value.int .i64 0) fun b9=>
 Za b9 ⟨c,2,none⟩ (Value.int .u32 0) fun c0=>
 Za c0 ⟨c,3,none⟩ (Value.int .u32 0) fun c1=>
 Za c1 ⟨c,4,none⟩ (Value.int .i64 0) fun c2=>
 Za c2 ⟨c,5,none⟩ (Value.int .i64 0) fun c3=>
 Za c3 ⟨c,6,none⟩ (Value.int .i64 0) fun c4=>
 Za c4 ⟨c,7,none⟩ (Value.int .i64 0) fun c5=>
 Za c5 ⟨c,8,none⟩ (Value.slice none 0 0) fun h=>
 ∃n,h.cell ⟨c,0,none⟩=some (Value.int .i64 n)∧∃o,h.cell ⟨c,1,none⟩=some (Value.int .i64 o)∧∃p,h.cell ⟨c,2,none⟩=some (Value.int .u32 p)∧∃q,h.cell ⟨c,3,none⟩=some (Value.int .u32 q)∧∃r,h.cell ⟨c,4,none⟩=some (Value.int .i64 r)∧∃s,h.cell ⟨c,5,none⟩=some (Value.int .i64 s)∧∃t,h.cell ⟨c,6,none⟩=some (Value.int .i64 t)∧∃u,h.cell ⟨c,7,none⟩=some (Value.int .i64 u)∧∃v x w,h.cell ⟨c,8,none⟩=some (Value.slice v x w)∧k (Value.tuple ⟨[(Value.agg ⟨[(Value.int .i64 n),(Value.int .i64 o),(Value.int .u32 p),(Value.int .u32 q),(Value.int .i64 r),(Value.int .i64 s),(Value.int .i64 t),(Value.int .i64 u),(Value.slice v x w)]⟩),(Value.bool false)]⟩) h)
 (∃Z,f.cell ⟨a,0,none⟩=some (Value.int .i64 Z)∧∃a0,f.cell ⟨a,1,none⟩=some (Value.int .i64 a0)∧∃a1,f.cell ⟨a,2,none⟩=some (Value.int .u32 a1)∧∃a2,f.cell ⟨a,3,none⟩=some (Value.int .u32 a2)∧∃a3,f.cell ⟨a,4,none⟩=some (Value.int .i64 a3)∧∃a4,f.cell ⟨a,5,none⟩=some (Value.int .i64 a4)∧∃a5,f.cell ⟨a,6,none⟩=some (Value.int .i64 a5)∧∃a6,f.cell ⟨a,7,none⟩=some (Value.int .i64 a6)∧∃a7 a9 a8,f.cell ⟨a,8,none⟩=some (Value.slice a7 a9 a8)∧FnW Tryz.prog Zjf ⟨[(Value.agg ⟨[(Value.int .i64 Z),(Value.int .i64 a0),(Value.int .u32 a1),(Value.int .u32 a2),(Value.int .i64 a3),(Value.int .i64 a4),(Value.int .i64 a5),(Value.int .i64 a6),(Value.slice a7 a9 a8)]⟩),(Value.int .i64 4)]⟩ f fun f1 i=>
 ∃b0,f1=Value.bool b0∧
 IfB b0
 (∃b1,i.cell ⟨a,3,none⟩=some (Value.int .u32 b1)∧
 Za i ⟨d,2,none⟩ (Value.int .u32 b1) fun c6=>
 Zuo c d c6 k)
 (∃y,i.cell ⟨d,4,none⟩=some (Value.int .i64 y)∧
 Za i ⟨d,4,none⟩ (Value.int .i64 (Zdz .i64 y 16)) fun e=>
 ∃l:List Nat,(∀b∈l,∃d6,e b=some d6)∧
 a∈l∧∃z,e.cell ⟨a,2,none⟩=some (Value.int .u32 z)∧
 ∃A,e.cell ⟨a,0,none⟩=some (Value.int .i64 A)∧∃B,e.cell ⟨a,1,none⟩=some (Value.int .i64 B)∧∃C,e.cell ⟨a,2,none⟩=some (Value.int .u32 C)∧∃D,e.cell ⟨a,3,none⟩=some (Value.int .u32 D)∧∃E,e.cell ⟨a,4,none⟩=some (Value.int .i64 E)∧∃F,e.cell ⟨a,5,none⟩=some (Value.int .i64 F)∧∃G,e.cell ⟨a,6,none⟩=some (Value.int .i64 G)∧∃H,e.cell ⟨a,7,none⟩=some (Value.int .i64 H)∧∃I K J,e.cell ⟨a,8,none⟩=some (Value.slice I K J)∧FnW Tryz.prog Zjq ⟨[(Value.agg ⟨[(Value.int .i64 A),(Value.int .i64 B),(Value.int .u32 C),(Value.int .u32 D),(Value.int .i64 E),(Value.int .i64 F),(Value.int .i64 G),(Value.int .i64 H),(Value.slice I K J)]⟩)]⟩ e fun e8 m=>
 ∃L,e8=Value.int .i64 L∧
 Zb l e m∧FnW Tryz.prog Zdm ⟨[(Value.int .u32 z),(Value.int .i64 L)]⟩ m fun e9 c8=>
 ∃M,e9=Value.int .u32 M∧
 Za c8 ⟨d,3,none⟩ (Value.int .u32 M) fun c9=>
 Zuo c d c9 k))
theorem Zcip (d e f g h i j k:Int) (l:Option Addr) (n m:Nat) {a:Heap} {c:Value->Heap->Prop} (p:Zbqk d e f g h i j k l n m a fun q o=>∀b,Shut a o b->c q b):FnW Tryz.prog Zqb ⟨[(Value.agg ⟨[(Value.int .i64 d),(Value.int .i64 e),(Value.int .u32 f),(Value.int .u32 g),(Value.int .i64 h),(Value.int .i64 i),(Value.int .i64 j),(Value.int .i64 k),(Value.slice l n m)]⟩)]⟩ a c:=Zc Tryz.func90 ⟨[(3,[0,1,2,3,4,5,6],[15])],[],[],[]⟩ (by kernel_rfl) (by kernel_rfl) p
def Zky (A z:Int) (a:Nat) (B:Bool) (d:Heap) (e:Value->Heap->Prop):Prop:=
 IfB B
 (e (Value.tuple ⟨[(Value.pointer none),(Value.slice none 0 0),(Value.int .i64 2)]⟩) d)
 (∃f,d.cell ⟨a,1,none⟩=some (Value.int .i64 f)∧
 ∃g,d.cell ⟨a,0,none⟩=some (Value.int .i64 g)∧
 FnW Tryz.prog Zox ⟨[(Value.int .i64 A),(Value.int .i64 f),(Value.int .i64 g),(Value.int .u32 z)]⟩ d fun C w=>
 ∃c,C=Value.pointer c∧
 NilP c fun D=>
 Za w D (Value.int .i64 2) fun b=>
 ∃h,b.cell ⟨a,0,none⟩=some (Value.int .i64 h)∧∃i,b.cell ⟨a,1,none⟩=some (Value.int .i64 i)∧∃j,b.cell ⟨a,2,none⟩=some (Value.int .u32 j)∧∃k,b.cell ⟨a,3,none⟩=some (Value.int .u32 k)∧∃l,b.cell ⟨a,4,none⟩=some (Value.int .i64 l)∧∃m,b.cell ⟨a,5,none⟩=some (Value.int .i64 m)∧∃n,b.cell ⟨a,6,none⟩=some (Value.int .i64 n)∧∃o,b.cell ⟨a,7,none⟩=some (Value.int .i64 o)∧∃p r q,b.cell ⟨a,8,none⟩=some (Value.slice p r q)∧FnW Tryz.prog Zmk ⟨[(Value.pointer c),(Value.agg ⟨[(Value.int .i64 h),(Value.int .i64 i),(Value.int .u32 j),(Value.int .u32 k),(Value.int .i64 l),(Value.int .i64 m),(Value.int .i64 n),(Value.int .i64 o),(Value.slice p r q)]⟩)]⟩ b fun E x=>
 E=Value.tuple ⟨[]⟩∧
 FnW Tryz.prog Zlz ⟨[(Value.pointer c)]⟩ x fun F y=>
 F=Value.tuple ⟨[]⟩∧
 FnW Tryz.prog Zjn ⟨[(Value.pointer c)]⟩ y fun G v=>
 ∃s u t,G=Value.slice s u t∧
 e (Value.tuple ⟨[(Value.pointer c),(Value.slice s u t),(Value.int .i64 0)]⟩) v)
def Zth (c e:Int) (a:Nat) (y:Bool) (b:Heap) (d:Value->Heap->Prop):Prop:=
 ∃i,b.cell ⟨a,0,none⟩=some (Value.int .i64 i)∧∃j,b.cell ⟨a,1,none⟩=some (Value.int .i64 j)∧∃k,b.cell ⟨a,2,none⟩=some (Value.int .u32 k)∧∃l,b.cell ⟨a,3,none⟩=some (Value.int .u32 l)∧∃m,b.cell ⟨a,4,none⟩=some (Value.int .i64 m)∧∃n,b.cell ⟨a,5,none⟩=some (Value.int .i64 n)∧∃o,b.cell ⟨a,6,none⟩=some (Value.int .i64 o)∧∃p,b.cell ⟨a,7,none⟩=some (Value.int .i64 p)∧∃q s r,b.cell ⟨a,8,none⟩=some (Value.slice q s r)∧FnW Tryz.prog Zoy ⟨[(Value.agg ⟨[(Value.int .i64 i),(Value.int .i64 j),(Value.int .u32 k),(Value.int .u32 l),(Value.int .i64 m),(Value.int .i64 n),(Value.int .i64 o),(Value.int .i64 p),(Value.slice q s r)]⟩)]⟩ b fun z h=>
 ∃t,z=Value.bool t∧
 IfB (!t)
 (Zky c e a true h d)
 (∃u,h.cell ⟨a,0,none⟩=some (Value.int .i64 u)∧
 FnW Tryz.prog Zje ⟨[(Value.int .i64 u)]⟩ h fun A f=>
 ∃v,A=Value.bool v∧
 IfB (!v)
 (Zky c e a true f d)
 (∃w,f.cell ⟨a,1,none⟩=some (Value.int .i64 w)∧
 FnW Tryz.prog Zje ⟨[(Value.int .i64 w)]⟩ f fun B g=>
 ∃x,B=Value.bool x∧
 IfB (!x)
 (Zky c e a true g d)
 (IfB (decide (c<0))
 (Zky c e a true g d)
 (Zky c e a y g d))))
def Zboj (g H I J K L M N O:Int) (P:Option Addr) (R Q:Nat) (f:Int) (G:Heap) (e:Value->Heap->Prop):Prop:=
 NewW G (Obj.cells ⟨[(Value.int .i64 H),(Value.int .i64 I),(Value.int .u32 J),(Value.int .u32 K),(Value.int .i64 L),(Value.int .i64 M),(Value.int .i64 N),(Value.int .i64 O),(Value.slice P R Q)]⟩ Zl) fun a c=>
 ∃h,c.cell ⟨a,0,none⟩=some (Value.int .i64 h)∧∃i,c.cell ⟨a,1,none⟩=some (Value.int .i64 i)∧∃j,c.cell ⟨a,2,none⟩=some (Value.int .u32 j)∧∃k,c.cell ⟨a,3,none⟩=some (Value.int .u32 k)∧∃l,c.cell ⟨a,4,none⟩=some (Value.int .i64 l)∧∃m,c.cell ⟨a,5,none⟩=some (Value.int .i64 m)∧∃n,c.cell ⟨a,6,none⟩=some (Value.int .i64 n)∧∃o,c.cell ⟨a,7,none⟩=some (Value.int .i64 o)∧∃p r q,c.cell ⟨a,8,none⟩=some (Value.slice p r q)∧FnW Tryz.prog Zco ⟨[(Value.agg ⟨[(Value.int .i64 h),(Value.int .i64 i),(Value.int .u32 j),(Value.int .u32 k),(Value.int .i64 l),(Value.int .i64 m),(Value.int .i64 n),(Value.int .i64 o),(Value.slice p r q)]⟩),(Value.int .i64 2)]⟩ c fun S b=>
 ∃s,S=Value.bool s∧
 IfB (!s)
 (Zth g f a true b e)
 (∃t,b.cell ⟨a,0,none⟩=some (Value.int .i64 t)∧∃u,b.cell ⟨a,1,none⟩=some (Value.int .i64 u)∧∃v,b.cell ⟨a,2,none⟩=some (Value.int .u32 v)∧∃w,b.cell ⟨a,3,none⟩=some (Value.int .u32 w)∧∃x,b.cell ⟨a,4,none⟩=some (Value.int .i64 x)∧∃y,b.cell ⟨a,5,none⟩=some (Value.int .i64 y)∧∃z,b.cell ⟨a,6,none⟩=some (Value.int .i64 z)∧∃A,b.cell ⟨a,7,none⟩=some (Value.int .i64 A)∧∃B D C,b.cell ⟨a,8,none⟩=some (Value.slice B D C)∧FnW Tryz.prog Zco ⟨[(Value.agg ⟨[(Value.int .i64 t),(Value.int .i64 u),(Value.int .u32 v),(Value.int .u32 w),(Value.int .i64 x),(Value.int .i64 y),(Value.int .i64 z),(Value.int .i64 A),(Value.slice B D C)]⟩),(Value.int .i64 21)]⟩ b fun T d=>
 ∃E,T=Value.bool E∧
 IfB E
 (Zth g f a true d e)
 (∃U F V,d.cell ⟨a,8,none⟩=some (Value.slice U F V)∧
 Zth g f a (decide (((F:Int):Int)>0)) d e))
theorem Zcgx (e f g h i j k l m:Int) (n:Option Addr) (p o:Nat) (d:Int) {a:Heap} {c:Value->Heap->Prop} (r:Zboj e f g h i j k l m n p o d a fun s q=>∀b,Shut a q b->c s b):FnW Tryz.prog Zxp ⟨[(Value.int .i64 e),(Value.agg ⟨[(Value.int .i64 f),(Value.int .i64 g),(Value.int .u32 h),(Value.int .u32 i),(Value.int .i64 j),(Value.int .i64 k),(Value.int .i64 l),(Value.int .i64 m),(Value.slice n p o)]⟩),(Value.int .u32 d)]⟩ a c:=Zc Tryz.func91 ⟨[],[],[],[]⟩ (by kernel_rfl) (by kernel_rfl) r
def Zbks (d:Nat) (a:Heap) (c:Value->Heap->Prop):Prop:=
 ∃b,a.cell ⟨d,4,none⟩=some (Value.pointer b)∧
 c (Value.bool (!b.isNone)) a
theorem Zcdf (d:Nat) {a:Heap} {c:Value->Heap->Prop} (f:Zbks d a fun g e=>∀b,Shut a e b->c g b):FnW Tryz.prog Zlp ⟨[(Value.pointer (some ⟨d,0,none⟩))]⟩ a c:=Zc Tryz.func101 ⟨[],[],[],[]⟩ (by kernel_rfl) (by kernel_rfl) f
def Zku (c:Nat) (h:(Unit)->Heap->Prop) (f:Bool) (a:Heap) (b:Value->Heap->Prop):Prop:=
 IfB f
 (FnW Tryz.prog Zwp ⟨[(Value.pointer (some ⟨c,0,none⟩))]⟩ a fun g d=>
 g=Value.tuple ⟨[]⟩∧
 Za d ⟨c,7,none⟩ (Value.bool true) fun e=>
 b (Value.tuple ⟨[]⟩) e)
 (b (Value.tuple ⟨[]⟩) a)
def Zbmv (a:Nat) (e:Heap) (d:(Unit)->Heap->Prop) (f:Value->Heap->Prop):Prop:=
 ∃i,e.cell ⟨a,4,none⟩=some (Value.pointer i)∧
 ∃j,e.cell ⟨a,10,none⟩=some (Value.int .i64 j)∧
 FnW Tryz.prog Zwq ⟨[(Value.pointer i),(Value.int .i64 j)]⟩ e fun y c=>
 ∃k,∃(l:Option Addr) (n m:Nat),∃o:Int,y=(Value.tuple ⟨[(Value.int .u32 k),(Value.slice l n m),(Value.int .i64 o)]⟩)∧
 IfB (o !=0)
 (∃g:List Nat,(∀b∈g,∃x,c b=some x)∧
 ∃p,c.cell ⟨a,6,none⟩=some (Value.bool p)∧
 IfB p
 (∃q,c.cell ⟨a,7,none⟩=some (Value.bool q)∧
 IfB (!q)
 (∃r,c.cell ⟨a,4,none⟩=some (Value.pointer r)∧
 a∈g∧∃t,c.cell ⟨a,4,none⟩=some (Value.pointer t)∧
 FnW Tryz.prog Zpe ⟨[(Value.pointer r)]⟩ c fun B h=>
 ∃s,B=Value.int .i64 s∧
 Zb g c h∧FnW Tryz.prog Zpf ⟨[(Value.pointer t)]⟩ h fun C w=>
 ∃u,C=Value.int .i64 u∧
 Zku a d (s==u) w f)
 (Zku a d false c f))
 (Zku a d false c f))
 (FnW Tryz.prog Zic ⟨[(Value.pointer (some ⟨a,0,none⟩)),(Value.int .u32 k),(Value.int .i64 24),(Value.slice l n m)]⟩ c fun A v=>
 ∃z,A=Value.pointer z∧
 d () v)
def Zbbl (d:Nat) (b:Heap) (c:Value->Heap->Prop):Prop:=
 Zbk (Unit) () b fun g a e=>∀f:Env,Zbmv d a e c
def Zkt (c:Nat) (d:Bool) (a:Heap) (b:Value->Heap->Prop):Prop:=
 IfB d
 (Zbbl c a b)
 (b (Value.tuple ⟨[]⟩) a)
def Zbmw (c:Nat) (b:Heap) (d:Value->Heap->Prop):Prop:=
 ∃a,b.cell ⟨c,0,none⟩=some (Value.int .i64 a)∧
 IfB (a==3)
 (Zkt c (a==3) b d)
 (IfB (a==4)
 (Zkt c (a==4) b d)
 (IfB (a==6)
 (Zkt c (a==6) b d)
 (IfB (a==7)
 (Zkt c (a==7) b d)
 (Zkt c (a==8) b d))))
theorem Zcfn (d:Nat) {a:Heap} {c:Value->Heap->Prop} (f:Zbmw d a fun g e=>∀b,Shut a e b->c g b):FnW Tryz.prog Zps ⟨[(Value.pointer (some ⟨d,0,none⟩))]⟩ a c:=Zc Tryz.func103 ⟨[(9,[0,1,2,3,4,5,6,7,8,9,10,11,12,13,14,15,16,17,19,20,21,22,18,23,24,25],[56])],[(6,[],[],[0])],[],[]⟩ (by kernel_rfl) (by kernel_rfl) f
def Zbku (b:Nat) (g:Heap) (c:Value->Heap->Prop):Prop:=
 FnW Tryz.prog Zfa ⟨[(Value.pointer (some ⟨b,0,none⟩))]⟩ g fun j a=>
 ∃e,j=Value.bool e∧
 IfB (!e)
 (c (Value.int .i64 0) a)
 (∃k f l,a.cell ⟨b,2,none⟩=some (Value.slice k f l)∧
 ∃h d i,a.cell ⟨b,5,none⟩=some (Value.slice h d i)∧
 c (Value.int .i64 (IntKind.wrap .i64 ((f:Int) - (d:Int)))) a)
theorem Zcdh (d:Nat) {a:Heap} {c:Value->Heap->Prop} (f:Zbku d a fun g e=>∀b,Shut a e b->c g b):FnW Tryz.prog Zlr ⟨[(Value.pointer (some ⟨d,0,none⟩))]⟩ a c:=Zc Tryz.func104 ⟨[],[],[],[]⟩ (by kernel_rfl) (by kernel_rfl) f
def Zblo (a:Nat) (c:Heap) (f:Value->Heap->Prop):Prop:=
 FnW Tryz.prog Zpg ⟨[(Value.pointer (some ⟨a,0,none⟩))]⟩ c fun g d=>
 ∃b,g=Value.int .u32 b∧
 FnW Tryz.prog Zic ⟨[(Value.pointer (some ⟨a,0,none⟩)),(Value.int .u32 b),(Value.int .i64 16),(Value.slice none 0 0)]⟩ d fun i e=>
 ∃h,i=Value.pointer h∧
 f (Value.tuple ⟨[]⟩) e
theorem Zcec (d:Nat) {a:Heap} {c:Value->Heap->Prop} (f:Zblo d a fun g e=>∀b,Shut a e b->c g b):FnW Tryz.prog Zpd ⟨[(Value.pointer (some ⟨d,0,none⟩))]⟩ a c:=Zc Tryz.func106 ⟨[],[],[],[]⟩ (by kernel_rfl) (by kernel_rfl) f
def Zbaw (d:Option Addr) (b z:Nat) (e c:Int) (a:Heap) (n:(Int×Int×Unit)->Heap->Prop) (f:Value->Heap->Prop):Prop:=
 IfB (decide (c<(IntKind.wrap .i64 (Int.tdiv (b:Int) 2))))
 (NilP d fun q=>
 InB (IntKind.wrap .i64 (2*c)) b fun o=>
 elemAt q o 1 fun p=>
 ∃g,a.cell p=some (Value.int .u8 g)∧
 (0:Int) <= 8∧
 NilP d fun t=>
 InB (IntKind.wrap .i64 ((IntKind.wrap .i64 (2*c))+1)) b fun r=>
 elemAt t r 1 fun s=>
 ∃h,a.cell s=some (Value.int .u8 h)∧
 FnW Tryz.prog Zdf ⟨[(Value.int .u32 (IntKind.wrap .u32 ((IntKind.wrap .u32 (e+(IntKind.wrap .u32 ((IntKind.wrap .u32 g)*2^(min (8:Int).toNat (IntKind.bits .u32))))))+(IntKind.wrap .u32 h))))]⟩ a fun u l=>
 ∃i,u=Value.int .u32 i∧
 n (i,((IntKind.wrap .i64 (c+1)),())) l)
 ((2:Int)≠0∧
 IfB (((Int.tmod (b:Int) 2):Int)==1)
 (NilP d fun x=>
 InB (IntKind.wrap .i64 ((b:Int) - 1)) b fun v=>
 elemAt x v 1 fun w=>
 ∃j,a.cell w=some (Value.int .u8 j)∧
 (0:Int) <= 8∧
 FnW Tryz.prog Zdf ⟨[(Value.int .u32 (IntKind.wrap .u32 (e+(IntKind.wrap .u32 ((IntKind.wrap .u32 j)*2^(min (8:Int).toNat (IntKind.bits .u32)))))))]⟩ a fun y m=>
 ∃k,y=Value.int .u32 k∧
 f (Value.int .u32 k) m)
 (f (Value.int .u32 e) a))
def Zbax (j:Int) (f:Option Addr) (h g:Nat) (a:Heap) (e:Value->Heap->Prop):Prop:=
 FnW Tryz.prog Zdf ⟨[(Value.int .u32 j)]⟩ a fun k d=>
 ∃c,k=Value.int .u32 c∧
 (2:Int)≠0∧
 Zbk (Int×Int×Unit) (c,(0,())) d fun b a i=>∀l:Env,Zbaw f h g b.1 b.2.1 a i e
theorem Zbii (g:Int) (d:Option Addr) (f e:Nat) {a:Heap} {c:Value->Heap->Prop} (i:Zbax g d f e a fun j h=>∀b,Shut a h b->c j b):FnW Tryz.prog Zop ⟨[(Value.int .u32 g),(Value.slice d f e)]⟩ a c:=Zc Tryz.func108 ⟨[],[(3,[5,12],[.int .u32,.int .i64],[1,11])],[],[]⟩ (by kernel_rfl) (by kernel_rfl) i
def Zbcj (n o E F:Int) (w:Heap) (c:Value->Heap->Prop):Prop:=
 (0:Int) <= 16∧
 (0:Int) <= 16∧
 NewW w (Obj.cells ⟨[(Value.int .u32 0),(Value.int .u32 0),(Value.int .u32 0),(Value.int .u32 0),(Value.int .u32 0),(Value.int .u32 0)]⟩ Zlc) fun a x=>
 Za x ⟨a,0,none⟩ (Value.int .u32 (Int.fdiv n (2^(min (16:Int).toNat (IntKind.bits .u32))))) fun z=>
 Za z ⟨a,1,none⟩ (Value.int .u32 (Zbc .u32 n 65535)) fun A=>
 Za A ⟨a,2,none⟩ (Value.int .u32 (Int.fdiv o (2^(min (16:Int).toNat (IntKind.bits .u32))))) fun B=>
 Za B ⟨a,3,none⟩ (Value.int .u32 (Zbc .u32 o 65535)) fun C=>
 Za C ⟨a,4,none⟩ (Value.int .u32 (IntKind.wrap .u32 E)) fun D=>
 Za D ⟨a,5,none⟩ (Value.int .u32 (IntKind.wrap .u32 (Zbc .i64 F 65535))) fun b=>
 ∃p,b.cell ⟨a,0,none⟩=some (Value.int .u32 p)∧∃q,b.cell ⟨a,1,none⟩=some (Value.int .u32 q)∧∃r,b.cell ⟨a,2,none⟩=some (Value.int .u32 r)∧∃s,b.cell ⟨a,3,none⟩=some (Value.int .u32 s)∧∃t,b.cell ⟨a,4,none⟩=some (Value.int .u32 t)∧∃u,b.cell ⟨a,5,none⟩=some (Value.int .u32 u)∧IfB (decide ((0:Int)<6))
 ((0:Int) <= 0∧(0:Int)<6∧
 FnW Tryz.prog Zdf ⟨[(Value.int .u32 (IntKind.wrap .u32 (0+p)))]⟩ b fun G l=>
 ∃d,G=Value.int .u32 d∧
 IfB (decide (((IntKind.wrap .i64 (0+1)):Int)<6))
 ((0:Int) <= (IntKind.wrap .i64 (0+1))∧((IntKind.wrap .i64 (0+1)):Int)<6∧
 FnW Tryz.prog Zdf ⟨[(Value.int .u32 (IntKind.wrap .u32 (d+q)))]⟩ l fun H m=>
 ∃e,H=Value.int .u32 e∧
 IfB (decide (((IntKind.wrap .i64 ((IntKind.wrap .i64 (0+1))+1)):Int)<6))
 ((0:Int) <= (IntKind.wrap .i64 ((IntKind.wrap .i64 (0+1))+1))∧((IntKind.wrap .i64 ((IntKind.wrap .i64 (0+1))+1)):Int)<6∧
 FnW Tryz.prog Zdf ⟨[(Value.int .u32 (IntKind.wrap .u32 (e+r)))]⟩ m fun I i=>
 ∃f,I=Value.int .u32 f∧
 IfB (decide (((IntKind.wrap .i64 ((IntKind.wrap .i64 ((IntKind.wrap .i64 (0+1))+1))+1)):Int)<6))
 ((0:Int) <= (IntKind.wrap .i64 ((IntKind.wrap .i64 ((IntKind.wrap .i64 (0+1))+1))+1))∧((IntKind.wrap .i64 ((IntKind.wrap .i64 ((IntKind.wrap .i64 (0+1))+1))+1)):Int)<6∧
 FnW Tryz.prog Zdf ⟨[(Value.int .u32 (IntKind.wrap .u32 (f+s)))]⟩ i fun J j=>
 ∃g,J=Value.int .u32 g∧
 IfB (decide (((IntKind.wrap .i64 ((IntKind.wrap .i64 ((IntKind.wrap .i64 ((IntKind.wrap .i64 (0+1))+1))+1))+1)):Int)<6))
 ((0:Int) <= (IntKind.wrap .i64 ((IntKind.wrap .i64 ((IntKind.wrap .i64 ((IntKind.wrap .i64 (0+1))+1))+1))+1))∧((IntKind.wrap .i64 ((IntKind.wrap .i64 ((IntKind.wrap .i64 ((IntKind.wrap .i64 (0+1))+1))+1))+1)):Int)<6∧
 FnW Tryz.prog Zdf ⟨[(Value.int .u32 (IntKind.wrap .u32 (g+t)))]⟩ j fun K k=>
 ∃h,K=Value.int .u32 h∧
 IfB (decide (((IntKind.wrap .i64 ((IntKind.wrap .i64 ((IntKind.wrap .i64 ((IntKind.wrap .i64 ((IntKind.wrap .i64 (0+1))+1))+1))+1))+1)):Int)<6))
 ((0:Int) <= (IntKind.wrap .i64 ((IntKind.wrap .i64 ((IntKind.wrap .i64 ((IntKind.wrap .i64 ((IntKind.wrap .i64 (0+1))+1))+1))+1))+1))∧((IntKind.wrap .i64 ((IntKind.wrap .i64 ((IntKind.wrap .i64 ((IntKind.wrap .i64 ((IntKind.wrap .i64 (0+1))+1))+1))+1))+1)):Int)<6∧
 FnW Tryz.prog Zdf ⟨[(Value.int .u32 (IntKind.wrap .u32 (h+u)))]⟩ k fun L y=>
 ∃v,L=Value.int .u32 v∧
 IfB (decide (((IntKind.wrap .i64 ((IntKind.wrap .i64 ((IntKind.wrap .i64 ((IntKind.wrap .i64 ((IntKind.wrap .i64 ((IntKind.wrap .i64 (0+1))+1))+1))+1))+1))+1)):Int)<6))
 ((0:Int) <= (IntKind.wrap .i64 ((IntKind.wrap .i64 ((IntKind.wrap .i64 ((IntKind.wrap .i64 ((IntKind.wrap .i64 ((IntKind.wrap .i64 (0+1))+1))+1))+1))+1))+1))∧((IntKind.wrap .i64 ((IntKind.wrap .i64 ((IntKind.wrap .i64 ((IntKind.wrap .i64 ((IntKind.wrap .i64 ((IntKind.wrap .i64 (0+1))+1))+1))+1))+1))+1)):Int)<6∧
 False)
 (c (Value.int .u32 v) y))
 (c (Value.int .u32 h) k))
 (c (Value.int .u32 g) j))
 (c (Value.int .u32 f) i))
 (c (Value.int .u32 e) m))
 (c (Value.int .u32 d) l))
 (c (Value.int .u32 0) b)
theorem Zbqv (d g e f:Int) {a:Heap} {c:Value->Heap->Prop} (i:Zbcj d g e f a fun j h=>∀b,Shut a h b->c j b):FnW Tryz.prog Zqc ⟨[(Value.int .u32 d),(Value.int .u32 g),(Value.int .u8 e),(Value.int .i64 f)]⟩ a c:=Zc Tryz.func109 ⟨[],[],[(4,7)],[]⟩ (by kernel_rfl) (by kernel_rfl) i
def Zbkt (b:Nat) (j:Int) (a:Heap) (i:Value->Heap->Prop):Prop:=
 ∃e,a.cell ⟨b,3,none⟩=some (Value.int .u32 e)∧
 FnW Tryz.prog Zdm ⟨[(Value.int .u32 e),(Value.int .i64 1)]⟩ a fun k f=>
 ∃c,k=Value.int .u32 c∧
 FnW Tryz.prog Zyi ⟨[(Value.int .u32 c),(Value.int .i64 4096),(Value.int .i64 0),(Value.int .i64 j)]⟩ f fun m g=>
 ∃d,∃l:Int,m=(Value.tuple ⟨[(Value.pointer d),(Value.int .i64 l)]⟩)∧
 Za g ⟨b,4,none⟩ (Value.pointer d) fun h=>
 i (Value.tuple ⟨[]⟩) h
theorem Zcdg (d:Nat) (e:Int) {a:Heap} {c:Value->Heap->Prop} (g:Zbkt d e a fun h f=>∀b,Shut a f b->c h b):FnW Tryz.prog Zlq ⟨[(Value.pointer (some ⟨d,0,none⟩)),(Value.int .i64 e)]⟩ a c:=Zc Tryz.func113 ⟨[],[],[],[]⟩ (by kernel_rfl) (by kernel_rfl) g
def Zbrg (a:Nat) (x B:Int) (y:Option Addr) (A z:Nat) (c:Heap) (w:Value->Heap->Prop):Prop:=
 ∃d:List Nat,(∀b∈d,∃C,c b=some C)∧
 a∈d∧∃i k j,c.cell ⟨a,12,none⟩=some (Value.slice i k j)∧
 a∈d∧∃l,c.cell ⟨a,1,none⟩=some (Value.int .i64 l)∧
 a∈d∧∃m,c.cell ⟨a,2,none⟩=some (Value.int .i64 m)∧
 FnW Tryz.prog Zid ⟨[(Value.pointer (some ⟨a,0,none⟩))]⟩ c fun D f=>
 ∃n,D=Value.int .u32 n∧
 Zb d c f∧FnW Tryz.prog Zwr ⟨[(Value.pointer (some ⟨a,0,none⟩))]⟩ f fun E g=>
 ∃o,E=Value.int .i64 o∧
 Zb d c g∧NewW g (Obj.cells ⟨[(Value.int .i64 l),(Value.int .i64 m),(Value.int .u32 x),(Value.int .u32 n),(Value.int .i64 B),(Value.int .i64 o),(Value.int .i64 0),(Value.int .i64 0),(Value.slice y A z)]⟩ Zl) fun F v=>
 AppW Tryz.prog #[Zfx,Zfx] Zfx [(Value.slice i k j),(Value.slice (some ⟨F,0,none⟩) 1 1)] v fun G h=>
 ∃p r q,G=Value.slice p r q∧
 Zb d c h∧Za h ⟨a,12,none⟩ (Value.slice p r q) fun e=>
 ∃s t H,e.cell ⟨a,12,none⟩=some (Value.slice s t H)∧
 ∃I u J,e.cell ⟨a,12,none⟩=some (Value.slice I u J)∧
 NilP s fun M=>
 InB (IntKind.wrap .i64 ((u:Int) - 1)) t fun K=>
 elemAt M K 9 fun L=>
 w (Value.pointer (some L)) e
theorem Zcji (h:Nat) (d i:Int) (e:Option Addr) (g f:Nat) {a:Heap} {c:Value->Heap->Prop} (k:Zbrg h d i e g f a fun l j=>∀b,Shut a j b->c l b):FnW Tryz.prog Zic ⟨[(Value.pointer (some ⟨h,0,none⟩)),(Value.int .u32 d),(Value.int .i64 i),(Value.slice e g f)]⟩ a c:=Zc Tryz.func114 ⟨[(1,[0,1,2,3,4,5,6,7,8,9,10,11,12,13,14,16,17,19,15,18,20,21,22,23,24,25],[13,17,21])],[],[],[]⟩ (by kernel_rfl) (by kernel_rfl) k
def Zsw (f:Nat) (g:Bool) (a:Heap) (b:Value->Heap->Prop):Prop:=
 IfB g
 (b (Value.bool true) a)
 (∃c,a.cell ⟨f,4,none⟩=some (Value.pointer c)∧
 FnW Tryz.prog Zpe ⟨[(Value.pointer c)]⟩ a fun h e=>
 ∃d,h=Value.int .i64 d∧
 b (Value.bool (decide (d>0))) e)
def Zsv (a:Nat) (j:Bool) (b:Heap) (d:Value->Heap->Prop):Prop:=
 IfB j
 (d (Value.bool true) b)
 (∃e,b.cell ⟨a,4,none⟩=some (Value.pointer e)∧
 FnW Tryz.prog Zws ⟨[(Value.pointer e)]⟩ b fun k c=>
 ∃f,k=Value.int .i64 f∧
 IfB (f==0)
 (∃g,c.cell ⟨a,4,none⟩=some (Value.pointer g)∧
 FnW Tryz.prog Zpf ⟨[(Value.pointer g)]⟩ c fun l i=>
 ∃h,l=Value.int .i64 h∧
 Zsw a (decide (h>0)) i d)
 (Zsw a false c d))
def Zsu (b:Nat) (f:Bool) (a:Heap) (c:Value->Heap->Prop):Prop:=
 IfB f
 (c (Value.bool true) a)
 (∃d,a.cell ⟨b,7,none⟩=some (Value.bool d)∧
 IfB d
 (∃e,a.cell ⟨b,8,none⟩=some (Value.bool e)∧
 Zsv b (!e) a c)
 (Zsv b false a c))
def Zbns (b:Nat) (a:Heap) (c:Value->Heap->Prop):Prop:=
 ∃e,a.cell ⟨b,0,none⟩=some (Value.int .i64 e)∧
 IfB (e==1)
 (Zsu b true a c)
 (∃d,a.cell ⟨b,0,none⟩=some (Value.int .i64 d)∧
 Zsu b (d==2) a c)
theorem Zcgl (d:Nat) {a:Heap} {c:Value->Heap->Prop} (f:Zbns d a fun g e=>∀b,Shut a e b->c g b):FnW Tryz.prog Zxn ⟨[(Value.pointer (some ⟨d,0,none⟩))]⟩ a c:=Zc Tryz.func115 ⟨[],[],[],[]⟩ (by kernel_rfl) (by kernel_rfl) f
def Zbmf (c:Nat) (g:Heap) (b:Value->Heap->Prop):Prop:=
 FnW Tryz.prog Zfk ⟨[(Value.pointer (some ⟨c,0,none⟩))]⟩ g fun j a=>
 ∃e,j=Value.bool e∧
 IfB (!e)
 (b (Value.int .i64 0) a)
 (∃f,a.cell ⟨c,0,none⟩=some (Value.pointer f)∧
 FnW Tryz.prog Zxm ⟨[(Value.pointer f)]⟩ a fun i h=>
 ∃d,i=Value.int .i64 d∧
 b (Value.int .i64 d) h)
theorem Zcex (d:Nat) {a:Heap} {c:Value->Heap->Prop} (f:Zbmf d a fun g e=>∀b,Shut a e b->c g b):FnW Tryz.prog Zwn ⟨[(Value.pointer (some ⟨d,0,none⟩))]⟩ a c:=Zc Tryz.func116 ⟨[],[],[],[]⟩ (by kernel_rfl) (by kernel_rfl) f
def Zsl (c:Nat) (j k g h i:Int) (f:Bool) (a:Heap) (b:Value->Heap->Prop):Prop:=
 IfB f
 (b (Value.bool false) a)
 (IfB (decide (((IntKind.wrap .i64 ((IntKind.wrap .i64 ((IntKind.wrap .i64 ((IntKind.wrap .i64 ((IntKind.wrap .i64 (0+1))+1))+1))+1))+1)):Int)<5))
 ((0:Int) <= (IntKind.wrap .i64 ((IntKind.wrap .i64 ((IntKind.wrap .i64 ((IntKind.wrap .i64 ((IntKind.wrap .i64 (0+1))+1))+1))+1))+1))∧((IntKind.wrap .i64 ((IntKind.wrap .i64 ((IntKind.wrap .i64 ((IntKind.wrap .i64 ((IntKind.wrap .i64 (0+1))+1))+1))+1))+1)):Int)<5∧
 False)
 (∃d,a.cell ⟨c,4,none⟩=some (Value.int .i64 d)∧
 IfB (decide (d≥0))
 (∃e,a.cell ⟨c,4,none⟩=some (Value.int .i64 e)∧
 b (Value.bool (decide (e<64))) a)
 (b (Value.bool false) a)))
def Zsk (c:Nat) (i j e f d:Int) (k:Bool) (a:Heap) (b:Value->Heap->Prop):Prop:=
 IfB k
 (b (Value.bool false) a)
 (IfB (decide (((IntKind.wrap .i64 ((IntKind.wrap .i64 ((IntKind.wrap .i64 ((IntKind.wrap .i64 (0+1))+1))+1))+1)):Int)<5))
 ((0:Int) <= (IntKind.wrap .i64 ((IntKind.wrap .i64 ((IntKind.wrap .i64 ((IntKind.wrap .i64 (0+1))+1))+1))+1))∧((IntKind.wrap .i64 ((IntKind.wrap .i64 ((IntKind.wrap .i64 ((IntKind.wrap .i64 (0+1))+1))+1))+1)):Int)<5∧
 IfB (decide (d<0))
 (Zsl c i j e f d true a b)
 (Zsl c i j e f d (decide (d>65535)) a b))
 (∃g,a.cell ⟨c,4,none⟩=some (Value.int .i64 g)∧
 IfB (decide (g≥0))
 (∃h,a.cell ⟨c,4,none⟩=some (Value.int .i64 h)∧
 b (Value.bool (decide (h<64))) a)
 (b (Value.bool false) a)))
def Zsj (c:Nat) (i j e d f:Int) (k:Bool) (a:Heap) (b:Value->Heap->Prop):Prop:=
 IfB k
 (b (Value.bool false) a)
 (IfB (decide (((IntKind.wrap .i64 ((IntKind.wrap .i64 ((IntKind.wrap .i64 (0+1))+1))+1)):Int)<5))
 ((0:Int) <= (IntKind.wrap .i64 ((IntKind.wrap .i64 ((IntKind.wrap .i64 (0+1))+1))+1))∧((IntKind.wrap .i64 ((IntKind.wrap .i64 ((IntKind.wrap .i64 (0+1))+1))+1)):Int)<5∧
 IfB (decide (d<0))
 (Zsk c i j e d f true a b)
 (Zsk c i j e d f (decide (d>65535)) a b))
 (∃g,a.cell ⟨c,4,none⟩=some (Value.int .i64 g)∧
 IfB (decide (g≥0))
 (∃h,a.cell ⟨c,4,none⟩=some (Value.int .i64 h)∧
 b (Value.bool (decide (h<64))) a)
 (b (Value.bool false) a)))
def Zsi (c:Nat) (i j d e f:Int) (k:Bool) (a:Heap) (b:Value->Heap->Prop):Prop:=
 IfB k
 (b (Value.bool false) a)
 (IfB (decide (((IntKind.wrap .i64 ((IntKind.wrap .i64 (0+1))+1)):Int)<5))
 ((0:Int) <= (IntKind.wrap .i64 ((IntKind.wrap .i64 (0+1))+1))∧((IntKind.wrap .i64 ((IntKind.wrap .i64 (0+1))+1)):Int)<5∧
 IfB (decide (d<0))
 (Zsj c i j d e f true a b)
 (Zsj c i j d e f (decide (d>65535)) a b))
 (∃g,a.cell ⟨c,4,none⟩=some (Value.int .i64 g)∧
 IfB (decide (g≥0))
 (∃h,a.cell ⟨c,4,none⟩=some (Value.int .i64 h)∧
 b (Value.bool (decide (h<64))) a)
 (b (Value.bool false) a)))
def Zsh (c:Nat) (j d e f g:Int) (k:Bool) (a:Heap) (b:Value->Heap->Prop):Prop:=
 IfB k
 (b (Value.bool false) a)
 (IfB (decide (((IntKind.wrap .i64 (0+1)):Int)<5))
 ((0:Int) <= (IntKind.wrap .i64 (0+1))∧((IntKind.wrap .i64 (0+1)):Int)<5∧
 IfB (decide (d<0))
 (Zsi c j d e f g true a b)
 (Zsi c j d e f g (decide (d>65535)) a b))
 (∃h,a.cell ⟨c,4,none⟩=some (Value.int .i64 h)∧
 IfB (decide (h≥0))
 (∃i,a.cell ⟨c,4,none⟩=some (Value.int .i64 i)∧
 b (Value.bool (decide (i<64))) a)
 (b (Value.bool false) a)))
def Zblz (l m n o p q r s:Int) (t:Option Addr) (v u:Nat) (k:Heap) (d:Value->Heap->Prop):Prop:=
 NewW k (Obj.cells ⟨[(Value.int .i64 l),(Value.int .i64 m),(Value.int .u32 n),(Value.int .u32 o),(Value.int .i64 p),(Value.int .i64 q),(Value.int .i64 r),(Value.int .i64 s),(Value.slice t v u)]⟩ Zl) fun b a=>
 ∃c,a.cell ⟨b,0,none⟩=some (Value.int .i64 c)∧
 ∃h,a.cell ⟨b,1,none⟩=some (Value.int .i64 h)∧
 ∃e,a.cell ⟨b,5,none⟩=some (Value.int .i64 e)∧
 ∃f,a.cell ⟨b,6,none⟩=some (Value.int .i64 f)∧
 ∃g,a.cell ⟨b,7,none⟩=some (Value.int .i64 g)∧
 IfB (decide ((0:Int)<5))
 ((0:Int) <= 0∧(0:Int)<5∧
 IfB (decide (c<0))
 (Zsh b c h e f g true a d)
 (Zsh b c h e f g (decide (c>65535)) a d))
 (∃i,a.cell ⟨b,4,none⟩=some (Value.int .i64 i)∧
 IfB (decide (i≥0))
 (∃j,a.cell ⟨b,4,none⟩=some (Value.int .i64 j)∧
 d (Value.bool (decide (j<64))) a)
 (d (Value.bool false) a))
theorem Zcer (d e f g h i j k:Int) (l:Option Addr) (n m:Nat) {a:Heap} {c:Value->Heap->Prop} (p:Zblz d e f g h i j k l n m a fun q o=>∀b,Shut a o b->c q b):FnW Tryz.prog Zwl ⟨[(Value.agg ⟨[(Value.int .i64 d),(Value.int .i64 e),(Value.int .u32 f),(Value.int .u32 g),(Value.int .i64 h),(Value.int .i64 i),(Value.int .i64 j),(Value.int .i64 k),(Value.slice l n m)]⟩)]⟩ a c:=Zc Tryz.func117 ⟨[],[],[(2,6)],[]⟩ (by kernel_rfl) (by kernel_rfl) p
def Zbbi (i j k l m n o p:Int) (q:Option Addr) (s r:Nat) (g:Heap) (c:Value->Heap->Prop):Prop:=
 NewW g (Obj.cells ⟨[(Value.int .i64 i),(Value.int .i64 j),(Value.int .u32 k),(Value.int .u32 l),(Value.int .i64 m),(Value.int .i64 n),(Value.int .i64 o),(Value.int .i64 p),(Value.slice q s r)]⟩ Zl) fun b a=>
 ∃e,a.cell ⟨b,7,none⟩=some (Value.int .i64 e)∧
 IfB (e==0)
 (c (Value.slice none 0 0) a)
 (∃f,a.cell ⟨b,7,none⟩=some (Value.int .i64 f)∧
 (0:Int) <= 8∧
 ∃d,a.cell ⟨b,7,none⟩=some (Value.int .i64 d)∧
 NewW a (Obj.cells ⟨[(Value.int .u8 2),(Value.int .u8 4),(Value.int .u8 (IntKind.wrap .u8 (Int.fdiv f (2^(min (8:Int).toNat (IntKind.bits .i64)))))),(Value.int .u8 (IntKind.wrap .u8 d))]⟩ Zh) fun t h=>
 c (Value.slice (some ⟨t,0,none⟩) 4 4) h)
theorem Zbjw (d e f g h i j k:Int) (l:Option Addr) (n m:Nat) {a:Heap} {c:Value->Heap->Prop} (p:Zbbi d e f g h i j k l n m a fun q o=>∀b,Shut a o b->c q b):FnW Tryz.prog Zow ⟨[(Value.agg ⟨[(Value.int .i64 d),(Value.int .i64 e),(Value.int .u32 f),(Value.int .u32 g),(Value.int .i64 h),(Value.int .i64 i),(Value.int .i64 j),(Value.int .i64 k),(Value.slice l n m)]⟩)]⟩ a c:=Zc Tryz.func118 ⟨[],[],[],[]⟩ (by kernel_rfl) (by kernel_rfl) p
def Zng (a:Option Addr) (b n:Nat) (c:Int) (d:Heap) (g:Value->Heap->Prop):Prop:=
 (0:Int) <= 8∧
 NilP a fun j=>
 InB 0 b fun h=>
 elemAt j h 1 fun i=>
 Za d i (Value.int .u8 (IntKind.wrap .u8 (Int.fdiv c (2^(min (8:Int).toNat (IntKind.bits .i64)))))) fun e=>
 NilP a fun m=>
 InB 1 b fun k=>
 elemAt m k 1 fun l=>
 Za e l (Value.int .u8 (IntKind.wrap .u8 c)) fun f=>
 g (Value.tuple ⟨[]⟩) f
theorem Zsm (d:Option Addr) (f e:Nat) (g:Int) {a:Heap} {c:Value->Heap->Prop} (i:Zng d f e g a fun j h=>∀b,Shut a h b->c j b):FnW Tryz.prog Zcu ⟨[(Value.slice d f e),(Value.int .i64 g)]⟩ a c:=Zc Tryz.func119 ⟨[],[],[],[]⟩ (by kernel_rfl) (by kernel_rfl) i
def Zbce (b:Option Addr) (d c:Nat) (e:Int) (f:Heap) (i:Value->Heap->Prop):Prop:=
 (0:Int) <= 16∧
 FnW Tryz.prog Zcu ⟨[(Value.slice b d c),(Value.int .i64 (IntKind.wrap .i64 (Int.fdiv e (2^(min (16:Int).toNat (IntKind.bits .u32))))))]⟩ f fun l g=>
 l=Value.tuple ⟨[]⟩∧
 InC 2 d fun a=>
 FnW Tryz.prog Zcu ⟨[(Value.slice (if c=a then b else Option.map (fun j=>Addr.add j (a*1)) b) (d - a) (c - a)),(Value.int .i64 (IntKind.wrap .i64 e))]⟩ g fun k h=>
 k=Value.tuple ⟨[]⟩∧
 i (Value.tuple ⟨[]⟩) h
theorem Zbqj (d:Option Addr) (f e:Nat) (g:Int) {a:Heap} {c:Value->Heap->Prop} (i:Zbce d f e g a fun j h=>∀b,Shut a h b->c j b):FnW Tryz.prog Zhz ⟨[(Value.slice d f e),(Value.int .u32 g)]⟩ a c:=Zc Tryz.func120 ⟨[],[],[],[]⟩ (by kernel_rfl) (by kernel_rfl) i
def Zbck (e:Int) (b:Heap) (d:Value->Heap->Prop):Prop:=
 FnW Tryz.prog Zdf ⟨[(Value.int .u32 e)]⟩ b fun f c=>
 ∃a,f=Value.int .u32 a∧
 d (Value.int .u16 (Zvh .u16 (if IntKind.signed .u16=true then (-1) else IntKind.max .u16) (IntKind.wrap .u16 a))) c
theorem Zbqw (d:Int) {a:Heap} {c:Value->Heap->Prop} (f:Zbck d a fun g e=>∀b,Shut a e b->c g b):FnW Tryz.prog Zqd ⟨[(Value.int .u32 d)]⟩ a c:=Zc Tryz.func121 ⟨[],[],[],[]⟩ (by kernel_rfl) (by kernel_rfl) f
def Zze:Plan:=⟨[],[],[],[]⟩
theorem Zbet:Known Tryz.prog Zjm Tryz.f126 Zze (Zea Tryz.f126):=by refine ⟨Tryz.func126,?_,?_,?_,?_,?_⟩<;>kernel_rfl
def Zbbp (c:Nat) (f:Heap) (b:Value->Heap->Prop):Prop:=
 FnW Tryz.prog Zfa ⟨[(Value.pointer (some ⟨c,0,none⟩))]⟩ f fun g a=>
 ∃d,g=Value.bool d∧
 IfB (!d)
 (b (Value.int .i64 0) a)
 (∃h e i,a.cell ⟨c,5,none⟩=some (Value.slice h e i)∧
 b (Value.int .i64 (e:Int)) a)
theorem Zcfy (c:Nat) (a:Heap) (b:Value->Heap->Prop):Zbbp c a b=Zf Tryz.prog Zze (Zea Tryz.f126) (env0 [(Value.pointer (some ⟨c,0,none⟩))]) a (RetW Tryz.prog Tryz.f126.results.toList b):=by kernel_rfl
theorem Zcgb (b:Nat) {a:Heap} {d:Value->Heap->Prop} (f:Zbbp b a fun g e=>∀c,Shut a e c->d g c):FnW Tryz.prog Zjm ⟨[(Value.pointer (some ⟨b,0,none⟩))]⟩ a d:=FnW.of_code Zbet (by kernel_rfl) (Eq.mp (Zcfy b a _) f)
def Zbbo (b:Heap) (d:Value->Heap->Prop):Prop:=
 FnW Tryz.prog Zfa ⟨[(Value.pointer none)]⟩ b fun e c=>
 ∃a,e=Value.bool a∧
 IfB (!a)
 (d (Value.int .i64 0) c)
 (False)
theorem Zcfz (a:Heap) (b:Value->Heap->Prop):Zbbo a b=Zf Tryz.prog Zze (Zea Tryz.f126) (env0 [(Value.pointer none)]) a (RetW Tryz.prog Tryz.f126.results.toList b):=by kernel_rfl
theorem Zcga {a:Heap} {c:Value->Heap->Prop} (e:Zbbo a fun f d=>∀b,Shut a d b->c f b):FnW Tryz.prog Zjm ⟨[(Value.pointer none)]⟩ a c:=FnW.of_code Zbet (by kernel_rfl) (Eq.mp (Zcfz a _) e)
def Zbnt (f g h i j k l m:Int) (n:Option Addr) (p o:Nat) (e:Int) (c:Heap) (d:Value->Heap->Prop):Prop:=
 NewW c (Obj.cells ⟨[(Value.int .i64 f),(Value.int .i64 g),(Value.int .u32 h),(Value.int .u32 i),(Value.int .i64 j),(Value.int .i64 k),(Value.int .i64 l),(Value.int .i64 m),(Value.slice n p o)]⟩ Zl) fun q a=>
 ∃b,a.cell ⟨q,4,none⟩=some (Value.int .i64 b)∧
 d (Value.bool (((Zbc .i64 b e):Int) !=0)) a
theorem Zcgm (e f g h i j k l:Int) (m:Option Addr) (o n:Nat) (d:Int) {a:Heap} {c:Value->Heap->Prop} (q:Zbnt e f g h i j k l m o n d a fun r p=>∀b,Shut a p b->c r b):FnW Tryz.prog Zco ⟨[(Value.agg ⟨[(Value.int .i64 e),(Value.int .i64 f),(Value.int .u32 g),(Value.int .u32 h),(Value.int .i64 i),(Value.int .i64 j),(Value.int .i64 k),(Value.int .i64 l),(Value.slice m o n)]⟩),(Value.int .i64 d)]⟩ a c:=Zc Tryz.func127 ⟨[],[],[],[]⟩ (by kernel_rfl) (by kernel_rfl) q
def Zbll (f:Nat) (a8 a9 b0 b1 b2 b3 b4 b5:Int) (b6:Option Addr) (b8 b7:Nat) (U:Heap) (e:Value->Heap->Prop):Prop:=
 NewW U (Obj.cells ⟨[(Value.int .i64 a8),(Value.int .i64 a9),(Value.int .u32 b0),(Value.int .u32 b1),(Value.int .i64 b2),(Value.int .i64 b3),(Value.int .i64 b4),(Value.int .i64 b5),(Value.slice b6 b8 b7)]⟩ Zl) fun d c=>
 ∃x,c.cell ⟨d,0,none⟩=some (Value.int .i64 x)∧∃y,c.cell ⟨d,1,none⟩=some (Value.int .i64 y)∧∃z,c.cell ⟨d,2,none⟩=some (Value.int .u32 z)∧∃A,c.cell ⟨d,3,none⟩=some (Value.int .u32 A)∧∃B,c.cell ⟨d,4,none⟩=some (Value.int .i64 B)∧∃C,c.cell ⟨d,5,none⟩=some (Value.int .i64 C)∧∃D,c.cell ⟨d,6,none⟩=some (Value.int .i64 D)∧∃E,c.cell ⟨d,7,none⟩=some (Value.int .i64 E)∧∃F H G,c.cell ⟨d,8,none⟩=some (Value.slice F H G)∧FnW Tryz.prog Zqb ⟨[(Value.agg ⟨[(Value.int .i64 x),(Value.int .i64 y),(Value.int .u32 z),(Value.int .u32 A),(Value.int .i64 B),(Value.int .i64 C),(Value.int .i64 D),(Value.int .i64 E),(Value.slice F H G)]⟩)]⟩ c fun c1 a0=>
 ∃I,∃J:Int,∃K:Int,∃L:Int,∃M:Int,∃N:Int,∃O:Int,∃P:Int,∃(Q:Option Addr) (S R:Nat),∃T:Bool,c1=(Value.tuple ⟨[(Value.agg ⟨[(Value.int .i64 I),(Value.int .i64 J),(Value.int .u32 K),(Value.int .u32 L),(Value.int .i64 M),(Value.int .i64 N),(Value.int .i64 O),(Value.int .i64 P),(Value.slice Q S R)]⟩),(Value.bool T)]⟩)∧
 NewW a0 (Obj.cells ⟨[(Value.int .i64 0),(Value.int .i64 0),(Value.int .u32 0),(Value.int .u32 0),(Value.int .i64 0),(Value.int .i64 0),(Value.int .i64 0),(Value.int .i64 0),(Value.slice none 0 0)]⟩ Zl) fun a a1=>
 Za a1 ⟨a,0,none⟩ (Value.int .i64 I) fun a2=>
 Za a2 ⟨a,1,none⟩ (Value.int .i64 J) fun a3=>
 Za a3 ⟨a,2,none⟩ (Value.int .u32 K) fun a4=>
 Za a4 ⟨a,3,none⟩ (Value.int .u32 L) fun a5=>
 Za a5 ⟨a,4,none⟩ (Value.int .i64 M) fun a6=>
 Za a6 ⟨a,5,none⟩ (Value.int .i64 N) fun a7=>
 Za a7 ⟨a,6,none⟩ (Value.int .i64 O) fun V=>
 Za V ⟨a,7,none⟩ (Value.int .i64 P) fun W=>
 Za W ⟨a,8,none⟩ (Value.slice Q S R) fun b=>
 IfB T
 (∃g i h,b.cell ⟨f,12,none⟩=some (Value.slice g i h)∧
 ∃j,b.cell ⟨a,0,none⟩=some (Value.int .i64 j)∧∃k,b.cell ⟨a,1,none⟩=some (Value.int .i64 k)∧∃l,b.cell ⟨a,2,none⟩=some (Value.int .u32 l)∧∃m,b.cell ⟨a,3,none⟩=some (Value.int .u32 m)∧∃n,b.cell ⟨a,4,none⟩=some (Value.int .i64 n)∧∃o,b.cell ⟨a,5,none⟩=some (Value.int .i64 o)∧∃p,b.cell ⟨a,6,none⟩=some (Value.int .i64 p)∧∃q,b.cell ⟨a,7,none⟩=some (Value.int .i64 q)∧∃r t s,b.cell ⟨a,8,none⟩=some (Value.slice r t s)∧NewW b (Obj.cells ⟨[(Value.int .i64 j),(Value.int .i64 k),(Value.int .u32 l),(Value.int .u32 m),(Value.int .i64 n),(Value.int .i64 o),(Value.int .i64 p),(Value.int .i64 q),(Value.slice r t s)]⟩ Zl) fun b9 X=>
 AppW Tryz.prog #[Zfx,Zfx] Zfx [(Value.slice g i h),(Value.slice (some ⟨b9,0,none⟩) 1 1)] X fun c0 Y=>
 ∃u w v,c0=Value.slice u w v∧
 Za Y ⟨f,12,none⟩ (Value.slice u w v) fun Z=>
 e (Value.tuple ⟨[]⟩) Z)
 (e (Value.tuple ⟨[]⟩) b)
theorem Zcdz (d:Nat) (e f g h i j k l:Int) (m:Option Addr) (o n:Nat) {a:Heap} {c:Value->Heap->Prop} (q:Zbll d e f g h i j k l m o n a fun r p=>∀b,Shut a p b->c r b):FnW Tryz.prog Zpa ⟨[(Value.pointer (some ⟨d,0,none⟩)),(Value.agg ⟨[(Value.int .i64 e),(Value.int .i64 f),(Value.int .u32 g),(Value.int .u32 h),(Value.int .i64 i),(Value.int .i64 j),(Value.int .i64 k),(Value.int .i64 l),(Value.slice m o n)]⟩)]⟩ a c:=Zc Tryz.func128 ⟨[],[],[],[]⟩ (by kernel_rfl) (by kernel_rfl) q
def Zblm (a:Nat) (b:Heap) (e:Value->Heap->Prop):Prop:=
 FnW Tryz.prog Zph ⟨[(Value.pointer (some ⟨a,0,none⟩))]⟩ b fun f c=>
 f=Value.tuple ⟨[]⟩∧
 Za c ⟨a,12,none⟩ (Value.slice none 0 0) fun d=>
 e (Value.int .i64 151) d
theorem Zcea (d:Nat) {a:Heap} {c:Value->Heap->Prop} (f:Zblm d a fun g e=>∀b,Shut a e b->c g b):FnW Tryz.prog Zpb ⟨[(Value.pointer (some ⟨d,0,none⟩))]⟩ a c:=Zc Tryz.func129 ⟨[],[],[],[]⟩ (by kernel_rfl) (by kernel_rfl) f
def Zbcn (d:Nat) (z A B C D E F G:Int) (H:Option Addr) (J I:Nat) (t:Heap) (y:Value->Heap->Prop):Prop:=
 NewW t (Obj.cells ⟨[(Value.int .i64 z),(Value.int .i64 A),(Value.int .u32 B),(Value.int .u32 C),(Value.int .i64 D),(Value.int .i64 E),(Value.int .i64 F),(Value.int .i64 G),(Value.slice H J I)]⟩ Zl) fun b c=>
 ∃q,c.cell ⟨b,2,none⟩=some (Value.int .u32 q)∧
 FnW Tryz.prog Zdm ⟨[(Value.int .u32 q),(Value.int .i64 1)]⟩ c fun M u=>
 ∃r,M=Value.int .u32 r∧
 FnW Tryz.prog Zyn ⟨[(Value.int .u32 r),(Value.int .i64 4096)]⟩ u fun O v=>
 ∃s,∃N:Int,O=(Value.tuple ⟨[(Value.pointer s),(Value.int .i64 N)]⟩)∧
 Za v ⟨d,5,none⟩ (Value.pointer s) fun a=>
 ∃e,a.cell ⟨b,0,none⟩=some (Value.int .i64 e)∧∃f,a.cell ⟨b,1,none⟩=some (Value.int .i64 f)∧∃g,a.cell ⟨b,2,none⟩=some (Value.int .u32 g)∧∃h,a.cell ⟨b,3,none⟩=some (Value.int .u32 h)∧∃i,a.cell ⟨b,4,none⟩=some (Value.int .i64 i)∧∃j,a.cell ⟨b,5,none⟩=some (Value.int .i64 j)∧∃k,a.cell ⟨b,6,none⟩=some (Value.int .i64 k)∧∃l,a.cell ⟨b,7,none⟩=some (Value.int .i64 l)∧∃m o n,a.cell ⟨b,8,none⟩=some (Value.slice m o n)∧FnW Tryz.prog Zwt ⟨[(Value.agg ⟨[(Value.int .i64 e),(Value.int .i64 f),(Value.int .u32 g),(Value.int .u32 h),(Value.int .i64 i),(Value.int .i64 j),(Value.int .i64 k),(Value.int .i64 l),(Value.slice m o n)]⟩)]⟩ a fun K w=>
 ∃p,K=Value.int .i64 p∧
 FnW Tryz.prog Zlq ⟨[(Value.pointer (some ⟨d,0,none⟩)),(Value.int .i64 p)]⟩ w fun L x=>
 L=Value.tuple ⟨[]⟩∧
 y (Value.tuple ⟨[]⟩) x
theorem Zbri (d:Nat) (e f g h i j k l:Int) (m:Option Addr) (o n:Nat) {a:Heap} {c:Value->Heap->Prop} (q:Zbcn d e f g h i j k l m o n a fun r p=>∀b,Shut a p b->c r b):FnW Tryz.prog Zmk ⟨[(Value.pointer (some ⟨d,0,none⟩)),(Value.agg ⟨[(Value.int .i64 e),(Value.int .i64 f),(Value.int .u32 g),(Value.int .u32 h),(Value.int .i64 i),(Value.int .i64 j),(Value.int .i64 k),(Value.int .i64 l),(Value.slice m o n)]⟩)]⟩ a c:=Zc Tryz.func130 ⟨[],[],[],[]⟩ (by kernel_rfl) (by kernel_rfl) q
def Zbln (b:Nat) (m n o p q r s t:Int) (u:Option Addr) (w v:Nat) (h:Heap) (l:Value->Heap->Prop):Prop:=
 NewW h (Obj.cells ⟨[(Value.int .i64 m),(Value.int .i64 n),(Value.int .u32 o),(Value.int .u32 p),(Value.int .i64 q),(Value.int .i64 r),(Value.int .i64 s),(Value.int .i64 t),(Value.slice u w v)]⟩ Zl) fun c i=>
 Za i ⟨b,0,none⟩ (Value.int .i64 3) fun j=>
 FnW Tryz.prog Zls ⟨[(Value.pointer (some ⟨b,0,none⟩))]⟩ j fun A a=>
 A=Value.tuple ⟨[]⟩∧
 ∃d,a.cell ⟨b,4,none⟩=some (Value.pointer d)∧
 ∃e,a.cell ⟨b,10,none⟩=some (Value.int .i64 e)∧
 ∃f,a.cell ⟨c,3,none⟩=some (Value.int .u32 f)∧
 ∃g,a.cell ⟨c,5,none⟩=some (Value.int .i64 g)∧
 FnW Tryz.prog Zjr ⟨[(Value.pointer d),(Value.int .i64 e),(Value.int .u32 f),(Value.int .i64 g)]⟩ a fun z k=>
 ∃x,∃y:Int,z=(Value.tuple ⟨[(Value.int .i64 x),(Value.int .i64 y)]⟩)∧
 l (Value.tuple ⟨[]⟩) k
theorem Zceb (d:Nat) (e f g h i j k l:Int) (m:Option Addr) (o n:Nat) {a:Heap} {c:Value->Heap->Prop} (q:Zbln d e f g h i j k l m o n a fun r p=>∀b,Shut a p b->c r b):FnW Tryz.prog Zpc ⟨[(Value.pointer (some ⟨d,0,none⟩)),(Value.agg ⟨[(Value.int .i64 e),(Value.int .i64 f),(Value.int .u32 g),(Value.int .u32 h),(Value.int .i64 i),(Value.int .i64 j),(Value.int .i64 k),(Value.int .i64 l),(Value.slice m o n)]⟩)]⟩ a c:=Zc Tryz.func131 ⟨[],[],[],[]⟩ (by kernel_rfl) (by kernel_rfl) q
def Zuh (c e b g:Int) (o:Bool) (d:Heap) (a:Value->Heap->Prop):Prop:=
 IfB o
 (a (Value.tuple ⟨[(Value.bool (b==c)),(Value.int .i64 0)]⟩) d)
 (IfB (g==0)
 (FnW Tryz.prog Zmf ⟨[(Value.int .u32 b),(Value.int .u32 c),(Value.int .i64 e)]⟩ d fun p l=>
 ∃h,p=Value.bool h∧
 a (Value.tuple ⟨[(Value.bool h),(Value.int .i64 0)]⟩) l)
 (FnW Tryz.prog Zmf ⟨[(Value.int .u32 b),(Value.int .u32 c),(Value.int .i64 e)]⟩ d fun q f=>
 ∃i,q=Value.bool i∧
 IfB i
 (a (Value.tuple ⟨[(Value.bool true),(Value.int .i64 0)]⟩) f)
 (FnW Tryz.prog Zdm ⟨[(Value.int .u32 b),(Value.int .i64 (IntKind.wrap .i64 (g - 1)))]⟩ f fun r m=>
 ∃j,r=Value.int .u32 j∧
 FnW Tryz.prog Zmf ⟨[(Value.int .u32 j),(Value.int .u32 c),(Value.int .i64 e)]⟩ m fun s n=>
 ∃k,s=Value.bool k∧
 a (Value.tuple ⟨[(Value.bool k),(Value.int .i64 0)]⟩) n)))
def Zbpt (f b e a:Int) (h:Heap) (d:Value->Heap->Prop):Prop:=
 FnW Tryz.prog Zqe ⟨[(Value.int .i64 b),(Value.int .i64 a)]⟩ h fun i c=>
 ∃g,i=Value.bool g∧
 IfB (!g)
 (d (Value.tuple ⟨[(Value.bool false),(Value.int .i64 2)]⟩) c)
 (IfB (a==0)
 (Zuh f b e a (b==0) c d)
 (Zuh f b e a false c d))
theorem Zchz (f g d e:Int) {a:Heap} {c:Value->Heap->Prop} (i:Zbpt f g d e a fun j h=>∀b,Shut a h b->c j b):FnW Tryz.prog Zxy ⟨[(Value.int .u32 f),(Value.int .i64 g),(Value.int .u32 d),(Value.int .i64 e)]⟩ a c:=Zc Tryz.func132 ⟨[],[],[],[]⟩ (by kernel_rfl) (by kernel_rfl) i
def Zbrj (e:Nat) (c:Heap) (d:Value->Heap->Prop):Prop:=
 ∃g,c.cell ⟨e,5,none⟩=some (Value.pointer g)∧
 FnW Tryz.prog Zhx ⟨[(Value.pointer g)]⟩ c fun h a=>
 ∃b,h=Value.int .u32 b∧
 ∃f,a.cell ⟨e,9,none⟩=some (Value.bool f)∧
 IfB f
 (d (Value.int .u32 (IntKind.wrap .u32 (b+1))) a)
 (d (Value.int .u32 b) a)
theorem Zcjj (d:Nat) {a:Heap} {c:Value->Heap->Prop} (f:Zbrj d a fun g e=>∀b,Shut a e b->c g b):FnW Tryz.prog Zid ⟨[(Value.pointer (some ⟨d,0,none⟩))]⟩ a c:=Zc Tryz.func133 ⟨[],[],[],[]⟩ (by kernel_rfl) (by kernel_rfl) f
def Zbbt (d:Nat) (c:Int) (a:Heap) (b:Value->Heap->Prop):Prop:=
 IfB (decide (((IntKind.wrap .i64 ((IntKind.wrap .i64 (0+1))+1)):Int)<2))
 ((0:Int) <= (IntKind.wrap .i64 ((IntKind.wrap .i64 (0+1))+1))∧((IntKind.wrap .i64 ((IntKind.wrap .i64 (0+1))+1)):Int)<2∧
 False)
 (b (Value.int .i64 c) a)
def Ztg (b:Nat) (d:Int) (a:Heap) (c:Value->Heap->Prop):Prop:=
 IfB (decide (((IntKind.wrap .i64 (0+1)):Int)<2))
 ((0:Int) <= (IntKind.wrap .i64 (0+1))∧((IntKind.wrap .i64 (0+1)):Int)<2∧
 ∃f,a.cell ⟨b,0,none⟩=some (Value.int .i64 f)∧∃g,a.cell ⟨b,1,none⟩=some (Value.int .i64 g)∧∃h,a.cell ⟨b,2,none⟩=some (Value.int .u32 h)∧∃i,a.cell ⟨b,3,none⟩=some (Value.int .u32 i)∧∃j,a.cell ⟨b,4,none⟩=some (Value.int .i64 j)∧∃k,a.cell ⟨b,5,none⟩=some (Value.int .i64 k)∧∃l,a.cell ⟨b,6,none⟩=some (Value.int .i64 l)∧∃m,a.cell ⟨b,7,none⟩=some (Value.int .i64 m)∧∃n p o,a.cell ⟨b,8,none⟩=some (Value.slice n p o)∧FnW Tryz.prog Zjf ⟨[(Value.agg ⟨[(Value.int .i64 f),(Value.int .i64 g),(Value.int .u32 h),(Value.int .u32 i),(Value.int .i64 j),(Value.int .i64 k),(Value.int .i64 l),(Value.int .i64 m),(Value.slice n p o)]⟩),(Value.int .i64 0)]⟩ a fun r e=>
 ∃q,r=Value.bool q∧
 IfB q
 (Zbbt b (IntKind.wrap .i64 (d+1)) e c)
 (Zbbt b d e c))
 (c (Value.int .i64 d) a)
def Zboi (s t u v w x y z:Int) (A:Option Addr) (C B:Nat) (r:Heap) (d:Value->Heap->Prop):Prop:=
 NewW r (Obj.cells ⟨[(Value.int .i64 s),(Value.int .i64 t),(Value.int .u32 u),(Value.int .u32 v),(Value.int .i64 w),(Value.int .i64 x),(Value.int .i64 y),(Value.int .i64 z),(Value.slice A C B)]⟩ Zl) fun b a=>
 ∃E c F,a.cell ⟨b,8,none⟩=some (Value.slice E c F)∧
 IfB (decide ((0:Int)<2))
 ((0:Int) <= 0∧(0:Int)<2∧
 ∃f,a.cell ⟨b,0,none⟩=some (Value.int .i64 f)∧∃g,a.cell ⟨b,1,none⟩=some (Value.int .i64 g)∧∃h,a.cell ⟨b,2,none⟩=some (Value.int .u32 h)∧∃i,a.cell ⟨b,3,none⟩=some (Value.int .u32 i)∧∃j,a.cell ⟨b,4,none⟩=some (Value.int .i64 j)∧∃k,a.cell ⟨b,5,none⟩=some (Value.int .i64 k)∧∃l,a.cell ⟨b,6,none⟩=some (Value.int .i64 l)∧∃m,a.cell ⟨b,7,none⟩=some (Value.int .i64 m)∧∃n p o,a.cell ⟨b,8,none⟩=some (Value.slice n p o)∧FnW Tryz.prog Zjf ⟨[(Value.agg ⟨[(Value.int .i64 f),(Value.int .i64 g),(Value.int .u32 h),(Value.int .u32 i),(Value.int .i64 j),(Value.int .i64 k),(Value.int .i64 l),(Value.int .i64 m),(Value.slice n p o)]⟩),(Value.int .i64 1)]⟩ a fun D e=>
 ∃q,D=Value.bool q∧
 IfB q
 (Ztg b (IntKind.wrap .i64 ((c:Int)+1)) e d)
 (Ztg b (c:Int) e d))
 (d (Value.int .i64 (c:Int)) a)
theorem Zcgw (d e f g h i j k:Int) (l:Option Addr) (n m:Nat) {a:Heap} {c:Value->Heap->Prop} (p:Zboi d e f g h i j k l n m a fun q o=>∀b,Shut a o b->c q b):FnW Tryz.prog Zjq ⟨[(Value.agg ⟨[(Value.int .i64 d),(Value.int .i64 e),(Value.int .u32 f),(Value.int .u32 g),(Value.int .i64 h),(Value.int .i64 i),(Value.int .i64 j),(Value.int .i64 k),(Value.slice l n m)]⟩)]⟩ a c:=Zc Tryz.func134 ⟨[],[],[(3,3)],[]⟩ (by kernel_rfl) (by kernel_rfl) p
def Zbld (f:Nat) (g:Int) (a:Heap) (b:Value->Heap->Prop):Prop:=
 IfB (g==0)
 (∃c,a.cell ⟨f,4,none⟩=some (Value.pointer c)∧
 NilP c fun h=>
 ∃d,a.cell h=some (Value.pointer d)∧
 FnW Tryz.prog Zlt ⟨[(Value.pointer d)]⟩ a fun i e=>
 i=Value.tuple ⟨[]⟩∧
 b (Value.bool true) e)
 (b (Value.bool true) a)
def Znf (d e:Nat) (a:Heap) (c:Value->Heap->Prop):Prop:=
 ∃b,a.cell ⟨e,5,none⟩=some (Value.int .i64 b)∧
 Zbld d b a c
def Zsg (a e:Nat) (b:Heap) (d:Value->Heap->Prop):Prop:=
 FnW Tryz.prog Zwu ⟨[(Value.pointer (some ⟨a,0,none⟩))]⟩ b fun f c=>
 f=Value.tuple ⟨[]⟩∧
 Znf a e c d
def Zsf (a d:Nat) (f:Bool) (b:Heap) (c:Value->Heap->Prop):Prop:=
 IfB f
 (FnW Tryz.prog Zls ⟨[(Value.pointer (some ⟨a,0,none⟩))]⟩ b fun g e=>
 g=Value.tuple ⟨[]⟩∧
 Zsg a d e c)
 (Zsg a d b c)
def Zks (d e:Nat) (y:Bool) (a:Heap) (g:Value->Heap->Prop):Prop:=
 IfB y
 (∃c:List Nat,(∀b∈c,∃h,a b=some h)∧
 d∈c∧∃o,a.cell ⟨d,4,none⟩=some (Value.pointer o)∧
 d∈c∧∃p,a.cell ⟨d,10,none⟩=some (Value.int .i64 p)∧
 ∃q,a.cell ⟨d,4,none⟩=some (Value.pointer q)∧
 e∈c∧∃s,a.cell ⟨e,5,none⟩=some (Value.int .i64 s)∧
 FnW Tryz.prog Zjg ⟨[(Value.pointer q)]⟩ a fun z j=>
 ∃r,z=Value.int .u32 r∧
 Zb c a j∧FnW Tryz.prog Zjr ⟨[(Value.pointer o),(Value.int .i64 p),(Value.int .u32 r),(Value.int .i64 s)]⟩ j fun B f=>
 ∃t,∃A:Int,B=(Value.tuple ⟨[(Value.int .i64 t),(Value.int .i64 A)]⟩)∧
 Zb c a f∧IfB (decide (t>0))
 (Zsf d e true f g)
 (∃u,f.cell ⟨d,8,none⟩=some (Value.bool u)∧
 Zsf d e (!u) f g))
 (∃c:List Nat,(∀b∈c,∃h,a b=some h)∧
 e∈c∧∃k,a.cell ⟨e,3,none⟩=some (Value.int .u32 k)∧
 ∃l,a.cell ⟨d,4,none⟩=some (Value.pointer l)∧
 FnW Tryz.prog Zwv ⟨[(Value.pointer l)]⟩ a fun w i=>
 ∃m,w=Value.int .u32 m∧
 Zb c a i∧FnW Tryz.prog Zww ⟨[(Value.int .u32 k),(Value.int .u32 m)]⟩ i fun x v=>
 ∃n,x=Value.bool n∧
 g (Value.bool n) v)
def Zble (a:Nat) (u v w x y z A B:Int) (C:Option Addr) (E D:Nat) (r:Heap) (f:Value->Heap->Prop):Prop:=
 NewW r (Obj.cells ⟨[(Value.int .i64 u),(Value.int .i64 v),(Value.int .u32 w),(Value.int .u32 x),(Value.int .i64 y),(Value.int .i64 z),(Value.int .i64 A),(Value.int .i64 B),(Value.slice C E D)]⟩ Zl) fun d e=>
 ∃i,e.cell ⟨a,4,none⟩=some (Value.pointer i)∧
 ∃j,e.cell ⟨a,10,none⟩=some (Value.int .i64 j)∧
 ∃k,e.cell ⟨d,3,none⟩=some (Value.int .u32 k)∧
 ∃l,e.cell ⟨d,5,none⟩=some (Value.int .i64 l)∧
 FnW Tryz.prog Zjr ⟨[(Value.pointer i),(Value.int .i64 j),(Value.int .u32 k),(Value.int .i64 l)]⟩ e fun F c=>
 ∃m,∃n:Int,F=(Value.tuple ⟨[(Value.int .i64 m),(Value.int .i64 n)]⟩)∧
 IfB (n==0)
 (IfB (decide (m>0))
 (FnW Tryz.prog Zls ⟨[(Value.pointer (some ⟨a,0,none⟩))]⟩ c fun G s=>
 G=Value.tuple ⟨[]⟩∧
 Znf a d s f)
 (Znf a d c f))
 (∃g:List Nat,(∀b∈g,∃t,c b=some t)∧
 ∃o,c.cell ⟨a,7,none⟩=some (Value.bool o)∧
 IfB o
 (d∈g∧∃p,c.cell ⟨d,3,none⟩=some (Value.int .u32 p)∧
 FnW Tryz.prog Zpg ⟨[(Value.pointer (some ⟨a,0,none⟩))]⟩ c fun H h=>
 ∃q,H=Value.int .u32 q∧
 Zb g c h∧Zks a d (p==q) h f)
 (Zks a d false c f))
theorem Zcdq (d:Nat) (e f g h i j k l:Int) (m:Option Addr) (o n:Nat) {a:Heap} {c:Value->Heap->Prop} (q:Zble d e f g h i j k l m o n a fun r p=>∀b,Shut a p b->c r b):FnW Tryz.prog Zwh ⟨[(Value.pointer (some ⟨d,0,none⟩)),(Value.agg ⟨[(Value.int .i64 e),(Value.int .i64 f),(Value.int .u32 g),(Value.int .u32 h),(Value.int .i64 i),(Value.int .i64 j),(Value.int .i64 k),(Value.int .i64 l),(Value.slice m o n)]⟩)]⟩ a c:=Zc Tryz.func135 ⟨[(2,[0,1,2,3,4,5,6,7,8],[24]),(6,[0,1,2,3,4,5,6,7,8,9,10,11,12],[46]),(7,[0,1,2,3,4,5,6,7,8,9,10,11,13,14,12,15,16,17,18,19],[55,59,66])],[],[],[]⟩ (by kernel_rfl) (by kernel_rfl) q
def Zsq (c:Nat) (i:Bool) (e:Heap) (b:Value->Heap->Prop):Prop:=
 IfB i
 (b (Value.tuple ⟨[]⟩) e)
 (Za e ⟨c,9,none⟩ (Value.bool true) fun a=>
 ∃d,a.cell ⟨c,0,none⟩=some (Value.int .i64 d)∧
 IfB (d==3)
 (Za a ⟨c,0,none⟩ (Value.int .i64 6) fun g=>
 b (Value.tuple ⟨[]⟩) g)
 (IfB (d==4)
 (Za a ⟨c,0,none⟩ (Value.int .i64 7) fun h=>
 b (Value.tuple ⟨[]⟩) h)
 (IfB (d==5)
 (FnW Tryz.prog Zpi ⟨[(Value.pointer (some ⟨c,0,none⟩))]⟩ a fun j f=>
 j=Value.tuple ⟨[]⟩∧
 b (Value.tuple ⟨[]⟩) f)
 (b (Value.tuple ⟨[]⟩) a))))
def Zbnm (e c:Nat) (f:Heap) (i:Value->Heap->Prop):Prop:=
 ∃j,f.cell ⟨e,5,none⟩=some (Value.pointer j)∧
 ∃k,f.cell ⟨c,2,none⟩=some (Value.int .u32 k)∧
 ∃l n m,f.cell ⟨c,8,none⟩=some (Value.slice l n m)∧
 FnW Tryz.prog Zwd ⟨[(Value.pointer j),(Value.int .u32 k),(Value.slice l n m)]⟩ f fun J a=>
 ∃H,∃I:Int,J=(Value.tuple ⟨[(Value.int .i64 H),(Value.int .i64 I)]⟩)∧
 ∃g:List Nat,(∀b∈g,∃G,a b=some G)∧
 ∃o,a.cell ⟨c,0,none⟩=some (Value.int .i64 o)∧∃p,a.cell ⟨c,1,none⟩=some (Value.int .i64 p)∧∃q,a.cell ⟨c,2,none⟩=some (Value.int .u32 q)∧∃r,a.cell ⟨c,3,none⟩=some (Value.int .u32 r)∧∃s,a.cell ⟨c,4,none⟩=some (Value.int .i64 s)∧∃t,a.cell ⟨c,5,none⟩=some (Value.int .i64 t)∧∃u,a.cell ⟨c,6,none⟩=some (Value.int .i64 u)∧∃v,a.cell ⟨c,7,none⟩=some (Value.int .i64 v)∧∃w y x,a.cell ⟨c,8,none⟩=some (Value.slice w y x)∧FnW Tryz.prog Zco ⟨[(Value.agg ⟨[(Value.int .i64 o),(Value.int .i64 p),(Value.int .u32 q),(Value.int .u32 r),(Value.int .i64 s),(Value.int .i64 t),(Value.int .i64 u),(Value.int .i64 v),(Value.slice w y x)]⟩),(Value.int .i64 1)]⟩ a fun K d=>
 ∃z,K=Value.bool z∧
 Zb g a d∧IfB (!z)
 (Zsq e true d i)
 (∃A,d.cell ⟨c,2,none⟩=some (Value.int .u32 A)∧
 ∃L B M,d.cell ⟨c,8,none⟩=some (Value.slice L B M)∧
 e∈g∧∃D,a.cell ⟨e,5,none⟩=some (Value.pointer D)∧
 FnW Tryz.prog Zdm ⟨[(Value.int .u32 A),(Value.int .i64 (B:Int))]⟩ d fun N h=>
 ∃C,N=Value.int .u32 C∧
 Zb g a h∧FnW Tryz.prog Zhx ⟨[(Value.pointer D)]⟩ h fun O F=>
 ∃E,O=Value.int .u32 E∧
 Zsq e (C !=E) F i)
def Zis (c d:Nat) (e:Bool) (a:Heap) (b:Value->Heap->Prop):Prop:=
 IfB e
 (Zbnm c d a b)
 (b (Value.tuple ⟨[]⟩) a)
def Zbnn (c:Nat) (g h i j k l m n:Int) (o:Option Addr) (q p:Nat) (f:Heap) (d:Value->Heap->Prop):Prop:=
 NewW f (Obj.cells ⟨[(Value.int .i64 g),(Value.int .i64 h),(Value.int .u32 i),(Value.int .u32 j),(Value.int .i64 k),(Value.int .i64 l),(Value.int .i64 m),(Value.int .i64 n),(Value.slice o q p)]⟩ Zl) fun e b=>
 ∃a,b.cell ⟨c,0,none⟩=some (Value.int .i64 a)∧
 IfB (a==3)
 (Zis c e (a==3) b d)
 (IfB (a==4)
 (Zis c e (a==4) b d)
 (Zis c e (a==5) b d))
theorem Zcgi (d:Nat) (e f g h i j k l:Int) (m:Option Addr) (o n:Nat) {a:Heap} {c:Value->Heap->Prop} (q:Zbnn d e f g h i j k l m o n a fun r p=>∀b,Shut a p b->c r b):FnW Tryz.prog Zxl ⟨[(Value.pointer (some ⟨d,0,none⟩)),(Value.agg ⟨[(Value.int .i64 e),(Value.int .i64 f),(Value.int .u32 g),(Value.int .u32 h),(Value.int .i64 i),(Value.int .i64 j),(Value.int .i64 k),(Value.int .i64 l),(Value.slice m o n)]⟩)]⟩ a c:=Zc Tryz.func136 ⟨[(6,[0,1,2,3,4,5,6,7,8,10,11,12,13,9,14,15,16],[34])],[],[],[]⟩ (by kernel_rfl) (by kernel_rfl) q
def Zbjx (h i j k l m n o:Int) (p:Option Addr) (r q:Nat) (c:Int) (g:Heap) (b:Value->Heap->Prop):Prop:=
 NewW g (Obj.cells ⟨[(Value.int .i64 h),(Value.int .i64 i),(Value.int .u32 j),(Value.int .u32 k),(Value.int .i64 l),(Value.int .i64 m),(Value.int .i64 n),(Value.int .i64 o),(Value.slice p r q)]⟩ Zl) fun d a=>
 ∃f,a.cell ⟨d,4,none⟩=some (Value.int .i64 f)∧
 IfB (decide (f≥0))
 (∃e,a.cell ⟨d,4,none⟩=some (Value.int .i64 e)∧
 (0:Int) <= c∧
 b (Value.bool (((Zbc .i64 (Int.fdiv e (2^(min c.toNat (IntKind.bits .i64)))) 1):Int)==1)) a)
 (b (Value.bool false) a)
theorem Zccr (e f g h i j k l:Int) (m:Option Addr) (o n:Nat) (d:Int) {a:Heap} {c:Value->Heap->Prop} (q:Zbjx e f g h i j k l m o n d a fun r p=>∀b,Shut a p b->c r b):FnW Tryz.prog Zjf ⟨[(Value.agg ⟨[(Value.int .i64 e),(Value.int .i64 f),(Value.int .u32 g),(Value.int .u32 h),(Value.int .i64 i),(Value.int .i64 j),(Value.int .i64 k),(Value.int .i64 l),(Value.slice m o n)]⟩),(Value.int .i64 d)]⟩ a c:=Zc Tryz.func137 ⟨[],[],[],[]⟩ (by kernel_rfl) (by kernel_rfl) q
def Zbpu (d:Nat) (a:Heap) (c:Value->Heap->Prop):Prop:=
 ∃b,a.cell ⟨d,0,none⟩=some (Value.pointer b)∧
 c (Value.bool (!b.isNone)) a
theorem Zcib (d:Nat) {a:Heap} {c:Value->Heap->Prop} (f:Zbpu d a fun g e=>∀b,Shut a e b->c g b):FnW Tryz.prog Zfk ⟨[(Value.pointer (some ⟨d,0,none⟩))]⟩ a c:=Zc Tryz.func150 ⟨[],[],[],[]⟩ (by kernel_rfl) (by kernel_rfl) f
def Zbmi (b:Nat) (q:Int) (o:Heap) (d:Value->Heap->Prop):Prop:=
 FnW Tryz.prog Zwx ⟨[(Value.pointer (some ⟨b,0,none⟩)),(Value.int .i64 q)]⟩ o fun r a=>
 ∃c,r=Value.int .i64 c∧
 IfB (c !=0)
 (d (Value.tuple ⟨[(Value.int .u32 0),(Value.slice none 0 0),(Value.int .i64 c)]⟩) a)
 (∃e,a.cell ⟨b,9,none⟩=some (Value.int .i64 e)∧
 ∃s f t,a.cell ⟨b,5,none⟩=some (Value.slice s f t)∧
 ∃g,a.cell ⟨b,6,none⟩=some (Value.int .i64 g)∧
 ∃h,a.cell ⟨b,8,none⟩=some (Value.int .i64 h)∧
 ∃i,a.cell ⟨b,6,none⟩=some (Value.int .i64 i)∧
 FnW Tryz.prog Zpy ⟨[(Value.pointer (some ⟨b,0,none⟩)),(Value.int .i64 (min (min e (IntKind.wrap .i64 ((f:Int) - g))) (IntKind.wrap .i64 (h - i))))]⟩ a fun u p=>
 ∃j,∃(k:Option Addr) (m l:Nat),∃n:Int,u=(Value.tuple ⟨[(Value.int .u32 j),(Value.slice k m l),(Value.int .i64 n)]⟩)∧
 d (Value.tuple ⟨[(Value.int .u32 j),(Value.slice k m l),(Value.int .i64 n)]⟩) p)
theorem Zcfa (e:Nat) (d:Int) {a:Heap} {c:Value->Heap->Prop} (g:Zbmi e d a fun h f=>∀b,Shut a f b->c h b):FnW Tryz.prog Zwq ⟨[(Value.pointer (some ⟨e,0,none⟩)),(Value.int .i64 d)]⟩ a c:=Zc Tryz.func152 ⟨[],[],[],[]⟩ (by kernel_rfl) (by kernel_rfl) g
def Zblp (c:Nat) (f:Heap) (b:Value->Heap->Prop):Prop:=
 FnW Tryz.prog Zfk ⟨[(Value.pointer (some ⟨c,0,none⟩))]⟩ f fun g a=>
 ∃d,g=Value.bool d∧
 IfB (!d)
 (b (Value.int .i64 0) a)
 (∃e,a.cell ⟨c,6,none⟩=some (Value.int .i64 e)∧
 b (Value.int .i64 e) a)
theorem Zceh (d:Nat) {a:Heap} {c:Value->Heap->Prop} (f:Zblp d a fun g e=>∀b,Shut a e b->c g b):FnW Tryz.prog Zpe ⟨[(Value.pointer (some ⟨d,0,none⟩))]⟩ a c:=Zc Tryz.func153 ⟨[],[],[],[]⟩ (by kernel_rfl) (by kernel_rfl) f
def Zblq (c:Nat) (f:Heap) (b:Value->Heap->Prop):Prop:=
 FnW Tryz.prog Zfk ⟨[(Value.pointer (some ⟨c,0,none⟩))]⟩ f fun g a=>
 ∃d,g=Value.bool d∧
 IfB (!d)
 (b (Value.int .i64 0) a)
 (∃h e i,a.cell ⟨c,5,none⟩=some (Value.slice h e i)∧
 b (Value.int .i64 (e:Int)) a)
theorem Zcei (d:Nat) {a:Heap} {c:Value->Heap->Prop} (f:Zblq d a fun g e=>∀b,Shut a e b->c g b):FnW Tryz.prog Zpf ⟨[(Value.pointer (some ⟨d,0,none⟩))]⟩ a c:=Zc Tryz.func154 ⟨[],[],[],[]⟩ (by kernel_rfl) (by kernel_rfl) f
def Zbmh (b:Nat) (a:Heap) (g:Value->Heap->Prop):Prop:=
 ∃c,a.cell ⟨b,4,none⟩=some (Value.pointer c)∧
 FnW Tryz.prog Zjg ⟨[(Value.pointer c)]⟩ a fun h e=>
 ∃d,h=Value.int .u32 d∧
 FnW Tryz.prog Zic ⟨[(Value.pointer (some ⟨b,0,none⟩)),(Value.int .u32 d),(Value.int .i64 17),(Value.slice none 0 0)]⟩ e fun j f=>
 ∃i,j=Value.pointer i∧
 g (Value.tuple ⟨[]⟩) f
theorem Zcez (d:Nat) {a:Heap} {c:Value->Heap->Prop} (f:Zbmh d a fun g e=>∀b,Shut a e b->c g b):FnW Tryz.prog Zwp ⟨[(Value.pointer (some ⟨d,0,none⟩))]⟩ a c:=Zc Tryz.func155 ⟨[],[],[],[]⟩ (by kernel_rfl) (by kernel_rfl) f
def Zzc:Plan:=⟨[],[],[],[]⟩
theorem Zber:Known Tryz.prog Zfa Tryz.f156 Zzc (Zea Tryz.f156):=by refine ⟨Tryz.func156,?_,?_,?_,?_,?_⟩<;>kernel_rfl
def Zbbk (d:Nat) (a:Heap) (c:Value->Heap->Prop):Prop:=
 ∃b f e,a.cell ⟨d,2,none⟩=some (Value.slice b f e)∧
 c (Value.bool (!b.isNone)) a
theorem Zced (c:Nat) (a:Heap) (b:Value->Heap->Prop):Zbbk c a b=Zf Tryz.prog Zzc (Zea Tryz.f156) (env0 [(Value.pointer (some ⟨c,0,none⟩))]) a (RetW Tryz.prog Tryz.f156.results.toList b):=by kernel_rfl
theorem Zceg (b:Nat) {a:Heap} {d:Value->Heap->Prop} (f:Zbbk b a fun g e=>∀c,Shut a e c->d g c):FnW Tryz.prog Zfa ⟨[(Value.pointer (some ⟨b,0,none⟩))]⟩ a d:=FnW.of_code Zber (by kernel_rfl) (Eq.mp (Zced b a _) f)
def Zbbj (a:Heap) (b:Value->Heap->Prop):Prop:=
 b (Value.bool false) a
theorem Zcee (a:Heap) (b:Value->Heap->Prop):Zbbj a b=Zf Tryz.prog Zzc (Zea Tryz.f156) (env0 [(Value.pointer none)]) a (RetW Tryz.prog Tryz.f156.results.toList b):=by kernel_rfl
theorem Zcef {a:Heap} {c:Value->Heap->Prop} (e:Zbbj a fun f d=>∀b,Shut a d b->c f b):FnW Tryz.prog Zfa ⟨[(Value.pointer none)]⟩ a c:=FnW.of_code Zber (by kernel_rfl) (Eq.mp (Zcee a _) e)
def Zblu (c:Option Addr) (j i:Nat) (a:Heap) (b:Value->Heap->Prop):Prop:=
 IfB c.isNone
 (b (Value.slice none 0 0) a)
 (NewW a (Obj.cells ⟨[]⟩ Zh) fun k g=>
 AppW Tryz.prog #[Zd,Zd] Zd [(Value.slice (some ⟨k,0,none⟩) 0 0),(Value.slice c j i)] g fun l h=>
 ∃d f e,l=Value.slice d f e∧
 b (Value.slice d f e) h)
theorem Zcem (d:Option Addr) (f e:Nat) {a:Heap} {c:Value->Heap->Prop} (h:Zblu d f e a fun i g=>∀b,Shut a g b->c i b):FnW Tryz.prog Zpj ⟨[(Value.slice d f e)]⟩ a c:=Zc Tryz.func157 ⟨[],[],[],[]⟩ (by kernel_rfl) (by kernel_rfl) h
def Zblr (e:Nat) (c:Heap) (d:Value->Heap->Prop):Prop:=
 ∃g,c.cell ⟨e,4,none⟩=some (Value.pointer g)∧
 FnW Tryz.prog Zjg ⟨[(Value.pointer g)]⟩ c fun h a=>
 ∃b,h=Value.int .u32 b∧
 ∃f,a.cell ⟨e,7,none⟩=some (Value.bool f)∧
 IfB f
 (d (Value.int .u32 (IntKind.wrap .u32 (b+1))) a)
 (d (Value.int .u32 b) a)
theorem Zcej (d:Nat) {a:Heap} {c:Value->Heap->Prop} (f:Zblr d a fun g e=>∀b,Shut a e b->c g b):FnW Tryz.prog Zpg ⟨[(Value.pointer (some ⟨d,0,none⟩))]⟩ a c:=Zc Tryz.func158 ⟨[],[],[],[]⟩ (by kernel_rfl) (by kernel_rfl) f
def Zbca (a:Int) (b:Heap) (d:(Int×Unit)->Heap->Prop) (c:Value->Heap->Prop):Prop:=
 IfB (decide (a>65535))
 ((0:Int) <= 16∧
 d ((IntKind.wrap .u32 ((Zbc .u32 a 65535)+(Int.fdiv a (2^(min (16:Int).toNat (IntKind.bits .u32)))))),()) b)
 (c (Value.int .u32 a) b)
def Zbcb (c:Int) (a:Heap) (b:Value->Heap->Prop):Prop:=
 Zbk (Int×Unit) (c,()) a fun e a d=>∀f:Env,Zbca e.1 a d b
theorem Zbpp (d:Int) {a:Heap} {c:Value->Heap->Prop} (f:Zbcb d a fun g e=>∀b,Shut a e b->c g b):FnW Tryz.prog Zdf ⟨[(Value.int .u32 d)]⟩ a c:=Zc Tryz.func159 ⟨[],[(2000000,[0],[.int .u32],[])],[],[]⟩ (by kernel_rfl) (by kernel_rfl) f
def Zuu (h g i f:Int) (j:Bool) (a:Heap) (b:Value->Heap->Prop):Prop:=
 IfB j
 (b (Value.tuple ⟨[(Value.pointer none),(Value.int .i64 2)]⟩) a)
 (FnW Tryz.prog Zwa ⟨[]⟩ a fun k d=>
 ∃c,k=Value.pointer c∧
 NewW d (Obj.cells ⟨[(Value.pointer c),(Value.bool false),(Value.int .u32 0),(Value.int .i64 0),(Value.int .u32 h),(Value.slice none 0 0),(Value.int .i64 0),(Value.int .i64 g),(Value.int .i64 i),(Value.int .i64 f),(Value.int .i64 0)]⟩ Zgo) fun l e=>
 b (Value.tuple ⟨[(Value.pointer (some ⟨l,0,none⟩)),(Value.int .i64 0)]⟩) e)
def Zbqx (e b c a:Int) (k:Heap) (d:Value->Heap->Prop):Prop:=
 FnW Tryz.prog Zjh ⟨[(Value.int .i64 b),(Value.int .i64 1)]⟩ k fun m f=>
 ∃h,m=Value.bool h∧
 IfB (!h)
 (Zuu e b c a true f d)
 (FnW Tryz.prog Zjh ⟨[(Value.int .i64 c),(Value.int .i64 0)]⟩ f fun n g=>
 ∃i,n=Value.bool i∧
 IfB (!i)
 (Zuu e b c a true g d)
 (FnW Tryz.prog Zjh ⟨[(Value.int .i64 a),(Value.int .i64 1)]⟩ g fun o l=>
 ∃j,o=Value.bool j∧
 Zuu e b c a (!j) l d))
theorem Zcja (f e g d:Int) {a:Heap} {c:Value->Heap->Prop} (i:Zbqx f e g d a fun j h=>∀b,Shut a h b->c j b):FnW Tryz.prog Zyi ⟨[(Value.int .u32 f),(Value.int .i64 e),(Value.int .i64 g),(Value.int .i64 d)]⟩ a c:=Zc Tryz.func163 ⟨[],[],[],[]⟩ (by kernel_rfl) (by kernel_rfl) i
def Zbmj (c:Nat) (a:Heap) (b:Value->Heap->Prop):Prop:=
 ∃f,a.cell ⟨c,5,none⟩=some (Value.pointer f)∧
 IfB f.isNone
 (b (Value.int .i64 4096) a)
 (∃d,a.cell ⟨c,5,none⟩=some (Value.pointer d)∧
 FnW Tryz.prog Zlr ⟨[(Value.pointer d)]⟩ a fun h g=>
 ∃e,h=Value.int .i64 e∧
 b (Value.int .i64 e) g)
theorem Zcfb (d:Nat) {a:Heap} {c:Value->Heap->Prop} (f:Zbmj d a fun g e=>∀b,Shut a e b->c g b):FnW Tryz.prog Zwr ⟨[(Value.pointer (some ⟨d,0,none⟩))]⟩ a c:=Zc Tryz.func164 ⟨[],[],[],[]⟩ (by kernel_rfl) (by kernel_rfl) f
def Zbml (c:Nat) (f:Heap) (b:Value->Heap->Prop):Prop:=
 FnW Tryz.prog Zfk ⟨[(Value.pointer (some ⟨c,0,none⟩))]⟩ f fun g a=>
 ∃d,g=Value.bool d∧
 IfB (!d)
 (b (Value.int .i64 0) a)
 (∃e,a.cell ⟨c,8,none⟩=some (Value.int .i64 e)∧
 b (Value.int .i64 e) a)
theorem Zcfd (d:Nat) {a:Heap} {c:Value->Heap->Prop} (f:Zbml d a fun g e=>∀b,Shut a e b->c g b):FnW Tryz.prog Zws ⟨[(Value.pointer (some ⟨d,0,none⟩))]⟩ a c:=Zc Tryz.func165 ⟨[],[],[],[]⟩ (by kernel_rfl) (by kernel_rfl) f
def Zsr (b d:Int) (e:(Int×Int×Unit)->Heap->Prop) (f:Bool) (a:Heap) (c:Value->Heap->Prop):Prop:=
 IfB f
 (e ((IntKind.wrap .i64 (b*2)),((IntKind.wrap .i64 (d - 1)),())) a)
 (c (Value.int .i64 (max 5 (min 600 b))) a)
def Zbno (b a:Int) (c:Heap) (e:(Int×Int×Unit)->Heap->Prop) (d:Value->Heap->Prop):Prop:=
 IfB (decide (a>0))
 (Zsr b a e (decide (b<600)) c d)
 (Zsr b a e false c d)
def Zss (b d:Int) (e:(Int×Int×Unit)->Heap->Prop) (f:Bool) (a:Heap) (c:Value->Heap->Prop):Prop:=
 IfB f
 (e ((IntKind.wrap .i64 (b*2)),((IntKind.wrap .i64 (d - 1)),())) a)
 (c (Value.int .i64 (max 5 (min 600 b))) a)
def Zbnp (b a:Int) (c:Heap) (e:(Int×Int×Unit)->Heap->Prop) (d:Value->Heap->Prop):Prop:=
 IfB (decide (a>0))
 (Zss b a e (decide (b<600)) c d)
 (Zss b a e false c d)
def Zbnq (c:Nat) (b:Heap) (e:Value->Heap->Prop):Prop:=
 FnW Tryz.prog Zlu ⟨[(Value.pointer (some ⟨c,0,none⟩))]⟩ b fun m a=>
 ∃k,m=Value.bool k∧
 IfB (!k)
 (e (Value.int .i64 0) a)
 (∃g,a.cell ⟨c,2,none⟩=some (Value.int .i64 g)∧
 ∃h,a.cell ⟨c,3,none⟩=some (Value.bool h)∧
 IfB h
 (∃i,a.cell ⟨c,0,none⟩=some (Value.int .i64 i)∧
 (8:Int)≠0∧
 ∃j,a.cell ⟨c,1,none⟩=some (Value.int .i64 j)∧
 Zbk (Int×Int×Unit) ((IntKind.wrap .i64 ((IntKind.wrap .i64 (Int.tdiv i 8))+(max 1 j))),(g,())) a fun d b f=>∀l:Env,Zbno d.1 d.2.1 b f e)
 (Zbk (Int×Int×Unit) (30,(g,())) a fun d b f=>∀l:Env,Zbnp d.1 d.2.1 b f e))
theorem Zcgj (d:Nat) {a:Heap} {c:Value->Heap->Prop} (f:Zbnq d a fun g e=>∀b,Shut a e b->c g b):FnW Tryz.prog Zxm ⟨[(Value.pointer (some ⟨d,0,none⟩))]⟩ a c:=Zc Tryz.func166 ⟨[],[(2000000,[3,4],[.int .i64,.int .i64],[])],[],[]⟩ (by kernel_rfl) (by kernel_rfl) f
def Zbls (d:Nat) (a:Heap) (c:Value->Heap->Prop):Prop:=
 Za a ⟨d,0,none⟩ (Value.int .i64 0) fun b=>
 c (Value.tuple ⟨[]⟩) b
theorem Zcek (d:Nat) {a:Heap} {c:Value->Heap->Prop} (f:Zbls d a fun g e=>∀b,Shut a e b->c g b):FnW Tryz.prog Zph ⟨[(Value.pointer (some ⟨d,0,none⟩))]⟩ a c:=Zc Tryz.func167 ⟨[],[],[],[]⟩ (by kernel_rfl) (by kernel_rfl) f
def Zbco (m a:Int) (n:Bool) (b:Heap) (c:Value->Heap->Prop):Prop:=
 IfB n
 (c (Value.tuple ⟨[(Value.pointer none),(Value.int .i64 2)]⟩) b)
 (Zcx Tryz.prog Zd (Value.int .i64 a) (Value.int .i64 a) b fun o j=>
 ∃d f e,o=Value.slice d f e∧
 Zcx Tryz.prog Zbrz (Value.int .i64 a) (Value.int .i64 a) j fun p k=>
 ∃g i h,p=Value.slice g i h∧
 NewW k (Obj.cells ⟨[(Value.int .u32 m),(Value.int .i64 0),(Value.slice d f e),(Value.slice g i h),(Value.int .i64 0),(Value.slice none 0 0)]⟩ Zhq) fun q l=>
 c (Value.tuple ⟨[(Value.pointer (some ⟨q,0,none⟩)),(Value.int .i64 0)]⟩) l)
def Zbrk (d a:Int) (b:Heap) (c:Value->Heap->Prop):Prop:=
 IfB (decide (a<1))
 (Zbco d a true b c)
 (Zbco d a (decide (a>65535)) b c)
theorem Zcjk (d e:Int) {a:Heap} {c:Value->Heap->Prop} (g:Zbrk d e a fun h f=>∀b,Shut a f b->c h b):FnW Tryz.prog Zyn ⟨[(Value.int .u32 d),(Value.int .i64 e)]⟩ a c:=Zc Tryz.func168 ⟨[],[],[],[]⟩ (by kernel_rfl) (by kernel_rfl) g
def Zbmm (g h i j k l m n:Int) (o:Option Addr) (q p:Nat) (f:Heap) (b:Value->Heap->Prop):Prop:=
 NewW f (Obj.cells ⟨[(Value.int .i64 g),(Value.int .i64 h),(Value.int .u32 i),(Value.int .u32 j),(Value.int .i64 k),(Value.int .i64 l),(Value.int .i64 m),(Value.int .i64 n),(Value.slice o q p)]⟩ Zl) fun c a=>
 ∃d,a.cell ⟨c,7,none⟩=some (Value.int .i64 d)∧
 IfB (d==0)
 (b (Value.int .i64 536) a)
 (∃e,a.cell ⟨c,7,none⟩=some (Value.int .i64 e)∧
 b (Value.int .i64 (min e 1460)) a)
theorem Zcfe (d e f g h i j k:Int) (l:Option Addr) (n m:Nat) {a:Heap} {c:Value->Heap->Prop} (p:Zbmm d e f g h i j k l n m a fun q o=>∀b,Shut a o b->c q b):FnW Tryz.prog Zwt ⟨[(Value.agg ⟨[(Value.int .i64 d),(Value.int .i64 e),(Value.int .u32 f),(Value.int .u32 g),(Value.int .i64 h),(Value.int .i64 i),(Value.int .i64 j),(Value.int .i64 k),(Value.slice l n m)]⟩)]⟩ a c:=Zc Tryz.func169 ⟨[],[],[],[]⟩ (by kernel_rfl) (by kernel_rfl) p
def Zbkv (b:Nat) (e:Heap) (g:Value->Heap->Prop):Prop:=
 Za e ⟨b,11,none⟩ (Value.int .i64 (-1)) fun a=>
 ∃d,a.cell ⟨b,4,none⟩=some (Value.pointer d)∧
 NilP d fun i=>
 ∃c,a.cell i=some (Value.pointer c)∧
 FnW Tryz.prog Zlt ⟨[(Value.pointer c)]⟩ a fun h f=>
 h=Value.tuple ⟨[]⟩∧
 g (Value.tuple ⟨[]⟩) f
theorem Zcdi (d:Nat) {a:Heap} {c:Value->Heap->Prop} (f:Zbkv d a fun g e=>∀b,Shut a e b->c g b):FnW Tryz.prog Zls ⟨[(Value.pointer (some ⟨d,0,none⟩))]⟩ a c:=Zc Tryz.func170 ⟨[],[],[],[]⟩ (by kernel_rfl) (by kernel_rfl) f
def Zno (c:Nat) (h i a:Int) (j:Bool) (d:Heap) (b:Value->Heap->Prop):Prop:=
 IfB j
 (b (Value.tuple ⟨[(Value.int .i64 0),(Value.int .i64 2)]⟩) d)
 (Za d ⟨c,10,none⟩ (Value.int .i64 h) fun f=>
 Za f ⟨c,8,none⟩ (Value.int .i64 i) fun e=>
 IfB (decide (((IntKind.wrap .i64 a):Int)>0))
 (FnW Tryz.prog Zxr ⟨[(Value.pointer (some ⟨c,0,none⟩)),(Value.int .i64 (IntKind.wrap .i64 a))]⟩ e fun k g=>
 k=Value.tuple ⟨[]⟩∧
 b (Value.tuple ⟨[(Value.int .i64 (IntKind.wrap .i64 a)),(Value.int .i64 0)]⟩) g)
 (b (Value.tuple ⟨[(Value.int .i64 (IntKind.wrap .i64 a)),(Value.int .i64 0)]⟩) e))
def Zboy (a:Nat) (e o f:Int) (m:Heap) (d:Value->Heap->Prop):Prop:=
 FnW Tryz.prog Zfk ⟨[(Value.pointer (some ⟨a,0,none⟩))]⟩ m fun p g=>
 ∃h,p=Value.bool h∧
 IfB (!h)
 (d (Value.tuple ⟨[(Value.int .i64 0),(Value.int .i64 1)]⟩) g)
 (∃i,g.cell ⟨a,4,none⟩=some (Value.int .u32 i)∧
 FnW Tryz.prog Zfz ⟨[(Value.int .u32 i),(Value.int .u32 o)]⟩ g fun q b=>
 ∃c,q=Value.int .u32 c∧
 ∃j,b.cell ⟨a,10,none⟩=some (Value.int .i64 j)∧
 IfB (decide (e<j))
 (Zno a e f c true b d)
 (∃k,b.cell ⟨a,6,none⟩=some (Value.int .i64 k)∧
 IfB (decide (((IntKind.wrap .i64 c):Int)>k))
 (Zno a e f c true b d)
 (FnW Tryz.prog Zjh ⟨[(Value.int .i64 f),(Value.int .i64 0)]⟩ b fun r n=>
 ∃l,r=Value.bool l∧
 Zno a e f c (!l) n d)))
theorem Zchk (f:Nat) (e d g:Int) {a:Heap} {c:Value->Heap->Prop} (i:Zboy f e d g a fun j h=>∀b,Shut a h b->c j b):FnW Tryz.prog Zjr ⟨[(Value.pointer (some ⟨f,0,none⟩)),(Value.int .i64 e),(Value.int .u32 d),(Value.int .i64 g)]⟩ a c:=Zc Tryz.func171 ⟨[],[],[],[]⟩ (by kernel_rfl) (by kernel_rfl) i
def Zbrl (f c:Int) (e:Heap) (b:Value->Heap->Prop):Prop:=
 FnW Tryz.prog Zqf ⟨[(Value.int .i64 f)]⟩ e fun g a=>
 ∃d,g=Value.bool d∧
 IfB d
 (IfB (decide (c≥0))
 (b (Value.bool (decide (c <= 1073741824))) a)
 (b (Value.bool false) a))
 (b (Value.bool false) a)
theorem Zcjl (e d:Int) {a:Heap} {c:Value->Heap->Prop} (g:Zbrl e d a fun h f=>∀b,Shut a f b->c h b):FnW Tryz.prog Zqe ⟨[(Value.int .i64 e),(Value.int .i64 d)]⟩ a c:=Zc Tryz.func172 ⟨[],[],[],[]⟩ (by kernel_rfl) (by kernel_rfl) g
def Zbql (h i c:Int) (f:Heap) (b:Value->Heap->Prop):Prop:=
 FnW Tryz.prog Zqf ⟨[(Value.int .i64 c)]⟩ f fun k a=>
 ∃e,k=Value.bool e∧
 IfB e
 (FnW Tryz.prog Zfz ⟨[(Value.int .u32 i),(Value.int .u32 h)]⟩ a fun j g=>
 ∃d,j=Value.int .u32 d∧
 b (Value.bool (decide (d<(IntKind.wrap .u32 c)))) g)
 (b (Value.bool false) a)
theorem Zciq (d e f:Int) {a:Heap} {c:Value->Heap->Prop} (h:Zbql d e f a fun i g=>∀b,Shut a g b->c i b):FnW Tryz.prog Zmf ⟨[(Value.int .u32 d),(Value.int .u32 e),(Value.int .i64 f)]⟩ a c:=Zc Tryz.func173 ⟨[],[],[],[]⟩ (by kernel_rfl) (by kernel_rfl) h
def Zzd:Plan:=⟨[],[],[],[]⟩
theorem Zbes:Known Tryz.prog Zhx Tryz.f174 Zzd (Zea Tryz.f174):=by refine ⟨Tryz.func174,?_,?_,?_,?_,?_⟩<;>kernel_rfl
def Zbbn (c:Nat) (f:Heap) (b:Value->Heap->Prop):Prop:=
 FnW Tryz.prog Zfa ⟨[(Value.pointer (some ⟨c,0,none⟩))]⟩ f fun g a=>
 ∃d,g=Value.bool d∧
 IfB (!d)
 (b (Value.int .u32 0) a)
 (∃e,a.cell ⟨c,0,none⟩=some (Value.int .u32 e)∧
 b (Value.int .u32 e) a)
theorem Zcfu (c:Nat) (a:Heap) (b:Value->Heap->Prop):Zbbn c a b=Zf Tryz.prog Zzd (Zea Tryz.f174) (env0 [(Value.pointer (some ⟨c,0,none⟩))]) a (RetW Tryz.prog Tryz.f174.results.toList b):=by kernel_rfl
theorem Zcfx (b:Nat) {a:Heap} {d:Value->Heap->Prop} (f:Zbbn b a fun g e=>∀c,Shut a e c->d g c):FnW Tryz.prog Zhx ⟨[(Value.pointer (some ⟨b,0,none⟩))]⟩ a d:=FnW.of_code Zbes (by kernel_rfl) (Eq.mp (Zcfu b a _) f)
def Zbbm (b:Heap) (d:Value->Heap->Prop):Prop:=
 FnW Tryz.prog Zfa ⟨[(Value.pointer none)]⟩ b fun e c=>
 ∃a,e=Value.bool a∧
 IfB (!a)
 (d (Value.int .u32 0) c)
 (False)
theorem Zcfv (a:Heap) (b:Value->Heap->Prop):Zbbm a b=Zf Tryz.prog Zzd (Zea Tryz.f174) (env0 [(Value.pointer none)]) a (RetW Tryz.prog Tryz.f174.results.toList b):=by kernel_rfl
theorem Zcfw {a:Heap} {c:Value->Heap->Prop} (e:Zbbm a fun f d=>∀b,Shut a d b->c f b):FnW Tryz.prog Zhx ⟨[(Value.pointer none)]⟩ a c:=FnW.of_code Zbes (by kernel_rfl) (Eq.mp (Zcfv a _) e)
def Zbka (b:Nat) (h:Heap) (c:Value->Heap->Prop):Prop:=
 FnW Tryz.prog Zfk ⟨[(Value.pointer (some ⟨b,0,none⟩))]⟩ h fun k a=>
 ∃f,k=Value.bool f∧
 IfB (!f)
 (c (Value.int .u32 0) a)
 (∃g,a.cell ⟨b,4,none⟩=some (Value.int .u32 g)∧
 ∃d,a.cell ⟨b,6,none⟩=some (Value.int .i64 d)∧
 FnW Tryz.prog Zdm ⟨[(Value.int .u32 g),(Value.int .i64 d)]⟩ a fun j i=>
 ∃e,j=Value.int .u32 e∧
 c (Value.int .u32 e) i)
theorem Zcct (d:Nat) {a:Heap} {c:Value->Heap->Prop} (f:Zbka d a fun g e=>∀b,Shut a e b->c g b):FnW Tryz.prog Zjg ⟨[(Value.pointer (some ⟨d,0,none⟩))]⟩ a c:=Zc Tryz.func175 ⟨[],[],[],[]⟩ (by kernel_rfl) (by kernel_rfl) f
def Zbmn (a:Nat) (e:Heap) (c:Value->Heap->Prop):Prop:=
 ∃f,e.cell ⟨a,8,none⟩=some (Value.bool f)∧
 IfB f
 (c (Value.tuple ⟨[]⟩) e)
 (Za e ⟨a,8,none⟩ (Value.bool true) fun b=>
 ∃d,b.cell ⟨a,0,none⟩=some (Value.int .i64 d)∧
 IfB (d==4)
 (Za b ⟨a,0,none⟩ (Value.int .i64 5) fun g=>
 c (Value.tuple ⟨[]⟩) g)
 (IfB (d==7)
 (FnW Tryz.prog Zpi ⟨[(Value.pointer (some ⟨a,0,none⟩))]⟩ b fun j h=>
 j=Value.tuple ⟨[]⟩∧
 c (Value.tuple ⟨[]⟩) h)
 (IfB (d==8)
 (FnW Tryz.prog Zph ⟨[(Value.pointer (some ⟨a,0,none⟩))]⟩ b fun k i=>
 k=Value.tuple ⟨[]⟩∧
 c (Value.tuple ⟨[]⟩) i)
 (c (Value.tuple ⟨[]⟩) b))))
theorem Zcff (d:Nat) {a:Heap} {c:Value->Heap->Prop} (f:Zbmn d a fun g e=>∀b,Shut a e b->c g b):FnW Tryz.prog Zwu ⟨[(Value.pointer (some ⟨d,0,none⟩))]⟩ a c:=Zc Tryz.func176 ⟨[],[],[],[]⟩ (by kernel_rfl) (by kernel_rfl) f
def Zbmp (e f:Int) (b:Heap) (d:Value->Heap->Prop):Prop:=
 FnW Tryz.prog Zfz ⟨[(Value.int .u32 e),(Value.int .u32 f)]⟩ b fun g c=>
 ∃a,g=Value.int .u32 a∧
 d (Value.bool (decide (((IntKind.wrap .u32 (a - 1)):Int)<2147483647))) c
theorem Zcfh (d e:Int) {a:Heap} {c:Value->Heap->Prop} (g:Zbmp d e a fun h f=>∀b,Shut a f b->c h b):FnW Tryz.prog Zww ⟨[(Value.int .u32 d),(Value.int .u32 e)]⟩ a c:=Zc Tryz.func177 ⟨[],[],[],[]⟩ (by kernel_rfl) (by kernel_rfl) g
def Zbmo (c:Nat) (f:Heap) (b:Value->Heap->Prop):Prop:=
 FnW Tryz.prog Zfk ⟨[(Value.pointer (some ⟨c,0,none⟩))]⟩ f fun g a=>
 ∃d,g=Value.bool d∧
 IfB (!d)
 (b (Value.int .u32 0) a)
 (∃e,a.cell ⟨c,4,none⟩=some (Value.int .u32 e)∧
 b (Value.int .u32 e) a)
theorem Zcfg (d:Nat) {a:Heap} {c:Value->Heap->Prop} (f:Zbmo d a fun g e=>∀b,Shut a e b->c g b):FnW Tryz.prog Zwv ⟨[(Value.pointer (some ⟨d,0,none⟩))]⟩ a c:=Zc Tryz.func178 ⟨[],[],[],[]⟩ (by kernel_rfl) (by kernel_rfl) f
def Zbkw (c:Nat) (e:Heap) (b:Value->Heap->Prop):Prop:=
 FnW Tryz.prog Zlu ⟨[(Value.pointer (some ⟨c,0,none⟩))]⟩ e fun g a=>
 ∃d,g=Value.bool d∧
 IfB d
 (Za a ⟨c,2,none⟩ (Value.int .i64 0) fun f=>
 b (Value.tuple ⟨[]⟩) f)
 (b (Value.tuple ⟨[]⟩) a)
theorem Zcdj (d:Nat) {a:Heap} {c:Value->Heap->Prop} (f:Zbkw d a fun g e=>∀b,Shut a e b->c g b):FnW Tryz.prog Zlt ⟨[(Value.pointer (some ⟨d,0,none⟩))]⟩ a c:=Zc Tryz.func179 ⟨[],[],[],[]⟩ (by kernel_rfl) (by kernel_rfl) f
def Zbkb (c:Nat) (i:Option Addr) (j t:Nat) (l n m a:Int) (b:Heap) (k:(Int×Unit)->Heap->Prop) (h:Value->Heap->Prop):Prop:=
 IfB (decide (a<m))
 (NilP i fun q=>
 InB (IntKind.wrap .i64 (l+a)) j fun o=>
 elemAt q o 1 fun p=>
 ∃d,b.cell p=some (Value.int .u8 d)∧
 FnW Tryz.prog Zwy ⟨[(Value.pointer (some ⟨c,0,none⟩)),(Value.int .i64 (IntKind.wrap .i64 ((IntKind.wrap .i64 n)+a))),(Value.int .u8 d)]⟩ b fun r f=>
 r=Value.tuple ⟨[]⟩∧
 k ((IntKind.wrap .i64 (a+1)),()) f)
 (FnW Tryz.prog Zyj ⟨[(Value.pointer (some ⟨c,0,none⟩))]⟩ b fun s g=>
 ∃e,s=Value.int .i64 e∧
 h (Value.tuple ⟨[(Value.int .i64 e),(Value.int .i64 0)]⟩) g)
def Zbkc (d:Nat) (n:Int) (w:Option Addr) (h x:Nat) (g:Heap) (f:Value->Heap->Prop):Prop:=
 FnW Tryz.prog Zfa ⟨[(Value.pointer (some ⟨d,0,none⟩))]⟩ g fun A c=>
 ∃o,A=Value.bool o∧
 IfB (!o)
 (f (Value.tuple ⟨[(Value.int .i64 0),(Value.int .i64 1)]⟩) c)
 (IfB (decide (((h:Int):Int)>65536))
 (f (Value.tuple ⟨[(Value.int .i64 0),(Value.int .i64 3)]⟩) c)
 (∃a:List Nat,(∀b∈a,∃i,c b=some i)∧
 d∈a∧∃p,c.cell ⟨d,0,none⟩=some (Value.int .u32 p)∧
 FnW Tryz.prog Zlr ⟨[(Value.pointer (some ⟨d,0,none⟩))]⟩ c fun B l=>
 ∃q,B=Value.int .i64 q∧
 Zb a c l∧FnW Tryz.prog Zxz ⟨[(Value.int .u32 p),(Value.int .i64 q),(Value.int .u32 n),(Value.int .i64 (h:Int))]⟩ l fun C e=>
 ∃j,∃r:Int,∃k:Int,C=(Value.tuple ⟨[(Value.int .i64 j),(Value.int .i64 r),(Value.int .i64 k)]⟩)∧
 Zb a c e∧IfB (k !=0)
 (f (Value.tuple ⟨[(Value.int .i64 0),(Value.int .i64 k)]⟩) e)
 (∃a:List Nat,(∀b∈a,∃i,e b=some i)∧
 d∈a∧∃s,e.cell ⟨d,0,none⟩=some (Value.int .u32 s)∧
 FnW Tryz.prog Zdm ⟨[(Value.int .u32 n),(Value.int .i64 j)]⟩ e fun D m=>
 ∃t,D=Value.int .u32 t∧
 Zb a e m∧FnW Tryz.prog Zfz ⟨[(Value.int .u32 s),(Value.int .u32 t)]⟩ m fun E v=>
 ∃u,E=Value.int .u32 u∧
 Zbk (Int×Unit) (0,()) v fun z g y=>∀F:Env,Zbkb d w h x j u r z.1 g y f)))
theorem Zccu (h:Nat) (d:Int) (e:Option Addr) (g f:Nat) {a:Heap} {c:Value->Heap->Prop} (j:Zbkc h d e g f a fun k i=>∀b,Shut a i b->c k b):FnW Tryz.prog Zwd ⟨[(Value.pointer (some ⟨h,0,none⟩)),(Value.int .u32 d),(Value.slice e g f)]⟩ a c:=Zc Tryz.func180 ⟨[(5,[0,1,2,3,4,6,7,8,5,9,10,11,12,13,14,15,16],[25]),(8,[0,1,2,3,4,5,6,7,8,9],[41])],[(10,[48],[.int .i64],[0,2,8,11,47])],[],[]⟩ (by kernel_rfl) (by kernel_rfl) j
def Zblt (a:Nat) (b:Heap) (f:Value->Heap->Prop):Prop:=
 ∃c,b.cell ⟨a,10,none⟩=some (Value.int .i64 c)∧
 Za b ⟨a,0,none⟩ (Value.int .i64 9) fun d=>
 Za d ⟨a,11,none⟩ (Value.int .i64 (IntKind.wrap .i64 (c+120))) fun e=>
 f (Value.tuple ⟨[]⟩) e
theorem Zcel (d:Nat) {a:Heap} {c:Value->Heap->Prop} (f:Zblt d a fun g e=>∀b,Shut a e b->c g b):FnW Tryz.prog Zpi ⟨[(Value.pointer (some ⟨d,0,none⟩))]⟩ a c:=Zc Tryz.func181 ⟨[],[],[],[]⟩ (by kernel_rfl) (by kernel_rfl) f
def Zbmq (c:Nat) (d:Int) (g:Heap) (b:Value->Heap->Prop):Prop:=
 FnW Tryz.prog Zfk ⟨[(Value.pointer (some ⟨c,0,none⟩))]⟩ g fun i a=>
 ∃f,i=Value.bool f∧
 IfB (!f)
 (b (Value.int .i64 1) a)
 (∃e,a.cell ⟨c,10,none⟩=some (Value.int .i64 e)∧
 IfB (decide (d<e))
 (b (Value.int .i64 2) a)
 (Za a ⟨c,10,none⟩ (Value.int .i64 d) fun h=>
 b (Value.int .i64 0) h))
theorem Zcfi (e:Nat) (d:Int) {a:Heap} {c:Value->Heap->Prop} (g:Zbmq e d a fun h f=>∀b,Shut a f b->c h b):FnW Tryz.prog Zwx ⟨[(Value.pointer (some ⟨e,0,none⟩)),(Value.int .i64 d)]⟩ a c:=Zc Tryz.func194 ⟨[],[],[],[]⟩ (by kernel_rfl) (by kernel_rfl) g
def Zua (b:Nat) (f g:Int) (h:Option Addr) (j i:Nat) (a:Heap) (e:Value->Heap->Prop):Prop:=
 ∃c,a.cell ⟨b,6,none⟩=some (Value.int .i64 c)∧
 Za a ⟨b,6,none⟩ (Value.int .i64 (IntKind.wrap .i64 (c+f))) fun d=>
 e (Value.tuple ⟨[(Value.int .u32 g),(Value.slice h j i),(Value.int .i64 0)]⟩) d
def Zbbz (a:Nat) (e:Int) (o:Heap) (i:Value->Heap->Prop):Prop:=
 IfB (decide (e <= 0))
 (i (Value.tuple ⟨[(Value.int .u32 0),(Value.slice none 0 0),(Value.int .i64 5)]⟩) o)
 (FnW Tryz.prog Zjg ⟨[(Value.pointer (some ⟨a,0,none⟩))]⟩ o fun B d=>
 ∃f,B=Value.int .u32 f∧
 ∃k C g,d.cell ⟨a,5,none⟩=some (Value.slice k C g)∧
 ∃q,d.cell ⟨a,6,none⟩=some (Value.int .i64 q)∧
 ∃r,d.cell ⟨a,6,none⟩=some (Value.int .i64 r)∧
 InC (IntKind.wrap .i64 (r+e)) g fun s=>
 InC q s fun h=>
 FnW Tryz.prog Zpj ⟨[(Value.slice (if g=h then k else Option.map (fun z=>Addr.add z (h*1)) k) (s - h) (g - h))]⟩ d fun D c=>
 ∃l n m,D=Value.slice l n m∧
 ∃t,c.cell ⟨a,1,none⟩=some (Value.bool t)∧
 IfB (!t)
 (∃j:List Nat,(∀b∈j,∃A,c b=some A)∧
 a∈j∧∃v,c.cell ⟨a,10,none⟩=some (Value.int .i64 v)∧
 FnW Tryz.prog Zdm ⟨[(Value.int .u32 f),(Value.int .i64 1)]⟩ c fun E p=>
 ∃u,E=Value.int .u32 u∧
 Zb j c p∧Za p ⟨a,1,none⟩ (Value.bool true) fun w=>
 Za w ⟨a,2,none⟩ (Value.int .u32 u) fun x=>
 Za x ⟨a,3,none⟩ (Value.int .i64 v) fun y=>
 Zua a e f l n m y i)
 (Zua a e f l n m c i))
theorem Zbpe (e:Nat) (d:Int) {a:Heap} {c:Value->Heap->Prop} (g:Zbbz e d a fun h f=>∀b,Shut a f b->c h b):FnW Tryz.prog Zpy ⟨[(Value.pointer (some ⟨e,0,none⟩)),(Value.int .i64 d)]⟩ a c:=Zc Tryz.func195 ⟨[(6,[0,1,3,4,5,6,2,7,8,9,10],[41])],[],[],[]⟩ (by kernel_rfl) (by kernel_rfl) g
def Zbkd (c d:Int) (a:Heap) (b:Value->Heap->Prop):Prop:=
 IfB (decide (c≥d))
 (b (Value.bool (decide (c <= 65535))) a)
 (b (Value.bool false) a)
theorem Zccv (e d:Int) {a:Heap} {c:Value->Heap->Prop} (g:Zbkd e d a fun h f=>∀b,Shut a f b->c h b):FnW Tryz.prog Zjh ⟨[(Value.int .i64 e),(Value.int .i64 d)]⟩ a c:=Zc Tryz.func207 ⟨[],[],[],[]⟩ (by kernel_rfl) (by kernel_rfl) g
def Zbhs (a:Heap) (c:Value->Heap->Prop):Prop:=
 NewW a (Obj.cells ⟨[(Value.int .i64 0),(Value.int .i64 0),(Value.int .i64 0),(Value.bool false),(Value.bool true)]⟩ Zvb) fun d b=>
 c (Value.pointer (some ⟨d,0,none⟩)) b
theorem Zbzh {a:Heap} {c:Value->Heap->Prop} (e:Zbhs a fun f d=>∀b,Shut a d b->c f b):FnW Tryz.prog Zwa ⟨[]⟩ a c:=Zc Tryz.func208 ⟨[],[],[],[]⟩ (by kernel_rfl) (by kernel_rfl) e
def Zbkx (d:Nat) (a:Heap) (c:Value->Heap->Prop):Prop:=
 ∃b,a.cell ⟨d,4,none⟩=some (Value.bool b)∧
 c (Value.bool b) a
theorem Zcdk (d:Nat) {a:Heap} {c:Value->Heap->Prop} (f:Zbkx d a fun g e=>∀b,Shut a e b->c g b):FnW Tryz.prog Zlu ⟨[(Value.pointer (some ⟨d,0,none⟩))]⟩ a c:=Zc Tryz.func209 ⟨[],[],[],[]⟩ (by kernel_rfl) (by kernel_rfl) f
def Zbid (c d:Int) (a:Heap) (b:Value->Heap->Prop):Prop:=
 b (Value.int .u32 (IntKind.wrap .u32 (d - c))) a
theorem Zcaa (d e:Int) {a:Heap} {c:Value->Heap->Prop} (g:Zbid d e a fun h f=>∀b,Shut a f b->c h b):FnW Tryz.prog Zfz ⟨[(Value.int .u32 d),(Value.int .u32 e)]⟩ a c:=Zc Tryz.func210 ⟨[],[],[],[]⟩ (by kernel_rfl) (by kernel_rfl) g
def Ztn (a:Nat) (c:Int) (h:Heap) (u:Value->Heap->Prop):Prop:=
 ∃k,h.cell ⟨a,0,none⟩=some (Value.pointer k)∧
 FnW Tryz.prog Zlt ⟨[(Value.pointer k)]⟩ h fun w i=>
 w=Value.tuple ⟨[]⟩∧
 ∃l,i.cell ⟨a,4,none⟩=some (Value.int .u32 l)∧
 FnW Tryz.prog Zdm ⟨[(Value.int .u32 l),(Value.int .i64 c)]⟩ i fun x s=>
 ∃m,x=Value.int .u32 m∧
 Za s ⟨a,4,none⟩ (Value.int .u32 m) fun j=>
 ∃d f e,j.cell ⟨a,5,none⟩=some (Value.slice d f e)∧
 InC c f fun b=>
 FnW Tryz.prog Zpj ⟨[(Value.slice (if e=b then d else Option.map (fun v=>Addr.add v (b*1)) d) (f - b) (e - b))]⟩ j fun y t=>
 ∃n p o,y=Value.slice n p o∧
 Za t ⟨a,5,none⟩ (Value.slice n p o) fun g=>
 ∃q,g.cell ⟨a,6,none⟩=some (Value.int .i64 q)∧
 Za g ⟨a,6,none⟩ (Value.int .i64 (IntKind.wrap .i64 (q - c))) fun r=>
 u (Value.tuple ⟨[]⟩) r
def Ztm (a:Nat) (e:Int) (j:Bool) (c:Heap) (d:Value->Heap->Prop):Prop:=
 IfB j
 (Za c ⟨a,1,none⟩ (Value.bool false) fun b=>
 ∃f,b.cell ⟨a,0,none⟩=some (Value.pointer f)∧
 ∃g,b.cell ⟨a,10,none⟩=some (Value.int .i64 g)∧
 ∃h,b.cell ⟨a,3,none⟩=some (Value.int .i64 h)∧
 FnW Tryz.prog Zyk ⟨[(Value.pointer f),(Value.int .i64 (min 100000 (IntKind.wrap .i64 (g - h))))]⟩ b fun l i=>
 ∃k,l=Value.int .i64 k∧
 Ztn a e i d)
 (Ztn a e c d)
def Zboq (b:Nat) (c:Int) (a:Heap) (d:Value->Heap->Prop):Prop:=
 ∃h,a.cell ⟨b,1,none⟩=some (Value.bool h)∧
 IfB h
 (∃e,a.cell ⟨b,4,none⟩=some (Value.int .u32 e)∧
 ∃f,a.cell ⟨b,2,none⟩=some (Value.int .u32 f)∧
 FnW Tryz.prog Zfz ⟨[(Value.int .u32 e),(Value.int .u32 f)]⟩ a fun j i=>
 ∃g,j=Value.int .u32 g∧
 Ztm b c (decide (((IntKind.wrap .i64 g):Int) <= c)) i d)
 (Ztm b c false a d)
theorem Zchc (e:Nat) (d:Int) {a:Heap} {c:Value->Heap->Prop} (g:Zboq e d a fun h f=>∀b,Shut a f b->c h b):FnW Tryz.prog Zxr ⟨[(Value.pointer (some ⟨e,0,none⟩)),(Value.int .i64 d)]⟩ a c:=Zc Tryz.func211 ⟨[(0,[0,1,2,3,4,5,6,7,8,9,10,11,12,13,14,17,15,16,18,19],[])],[],[],[]⟩ (by kernel_rfl) (by kernel_rfl) g
def Zbrn (c:Int) (a:Heap) (b:Value->Heap->Prop):Prop:=
 IfB (decide (c≥0))
 (b (Value.bool (decide (c <= 65535))) a)
 (b (Value.bool false) a)
theorem Zcjm (d:Int) {a:Heap} {c:Value->Heap->Prop} (f:Zbrn d a fun g e=>∀b,Shut a e b->c g b):FnW Tryz.prog Zqf ⟨[(Value.int .i64 d)]⟩ a c:=Zc Tryz.func212 ⟨[],[],[],[]⟩ (by kernel_rfl) (by kernel_rfl) f
def Zui (e d c:Int) (f:Bool) (a:Heap) (b:Value->Heap->Prop):Prop:=
 IfB f
 (b (Value.tuple ⟨[(Value.int .i64 0),(Value.int .i64 0),(Value.int .i64 0)]⟩) a)
 (b (Value.tuple ⟨[(Value.int .i64 (IntKind.wrap .i64 c)),(Value.int .i64 (min (IntKind.wrap .i64 (d - (IntKind.wrap .i64 c))) e)),(Value.int .i64 0)]⟩) a)
def Zbpv (i a h b:Int) (k:Heap) (c:Value->Heap->Prop):Prop:=
 FnW Tryz.prog Zqe ⟨[(Value.int .i64 a),(Value.int .i64 b)]⟩ k fun m g=>
 ∃j,m=Value.bool j∧
 IfB (!j)
 (c (Value.tuple ⟨[(Value.int .i64 0),(Value.int .i64 0),(Value.int .i64 2)]⟩) g)
 (FnW Tryz.prog Zfz ⟨[(Value.int .u32 i),(Value.int .u32 h)]⟩ g fun n l=>
 ∃f,n=Value.int .u32 f∧
 FnW Tryz.prog Zfz ⟨[(Value.int .u32 h),(Value.int .u32 i)]⟩ l fun o e=>
 ∃d,o=Value.int .u32 d∧
 IfB (decide (f<(IntKind.wrap .u32 a)))
 (c (Value.tuple ⟨[(Value.int .i64 0),(Value.int .i64 (min b (IntKind.wrap .i64 (a - (IntKind.wrap .i64 f))))),(Value.int .i64 0)]⟩) e)
 (IfB (decide (((IntKind.wrap .i64 d):Int)≥b))
 (Zui a b d true e c)
 (Zui a b d (a==0) e c)))
theorem Zcic (f g d e:Int) {a:Heap} {c:Value->Heap->Prop} (i:Zbpv f g d e a fun j h=>∀b,Shut a h b->c j b):FnW Tryz.prog Zxz ⟨[(Value.int .u32 f),(Value.int .i64 g),(Value.int .u32 d),(Value.int .i64 e)]⟩ a c:=Zc Tryz.func213 ⟨[],[],[],[]⟩ (by kernel_rfl) (by kernel_rfl) i
def Zbmr (b:Nat) (r q:Int) (n:Heap) (e:Value->Heap->Prop):Prop:=
 FnW Tryz.prog Zml ⟨[(Value.pointer (some ⟨b,0,none⟩)),(Value.int .i64 r)]⟩ n fun E a=>
 ∃c,E=Value.int .i64 c∧
 ∃f g s,a.cell ⟨b,3,none⟩=some (Value.slice f g s)∧
 NilP f fun v=>
 InB c g fun t=>
 elemAt v t 1 fun u=>
 ∃h,a.cell u=some (Value.bool h)∧
 IfB (!h)
 (∃i j w,a.cell ⟨b,2,none⟩=some (Value.slice i j w)∧
 ∃k l x,a.cell ⟨b,3,none⟩=some (Value.slice k l x)∧
 NilP i fun A=>
 InB c j fun y=>
 elemAt A y 1 fun z=>
 Za a z (Value.int .u8 q) fun o=>
 NilP k fun D=>
 InB c l fun B=>
 elemAt D B 1 fun C=>
 Za o C (Value.bool true) fun d=>
 ∃m,d.cell ⟨b,4,none⟩=some (Value.int .i64 m)∧
 Za d ⟨b,4,none⟩ (Value.int .i64 (IntKind.wrap .i64 (m+1))) fun p=>
 e (Value.tuple ⟨[]⟩) p)
 (e (Value.tuple ⟨[]⟩) a)
theorem Zcfj (f:Nat) (e d:Int) {a:Heap} {c:Value->Heap->Prop} (h:Zbmr f e d a fun i g=>∀b,Shut a g b->c i b):FnW Tryz.prog Zwy ⟨[(Value.pointer (some ⟨f,0,none⟩)),(Value.int .i64 e),(Value.int .u8 d)]⟩ a c:=Zc Tryz.func214 ⟨[],[],[],[]⟩ (by kernel_rfl) (by kernel_rfl) h
def Zuv (a:Nat) (f:Int) (b:Heap) (G:(Int×Unit)->Heap->Prop) (F:Value->Heap->Prop):Prop:=
 ∃y z V,b.cell ⟨a,3,none⟩=some (Value.slice y z V)∧
 ∃g,b.cell ⟨a,1,none⟩=some (Value.int .i64 g)∧
 NilP y fun J=>
 InB g z fun H=>
 elemAt J H 1 fun I=>
 ∃h,b.cell I=some (Value.bool h)∧
 IfB (!h)
 (F (Value.int .i64 f) b)
 (∃i k j,b.cell ⟨a,5,none⟩=some (Value.slice i k j)∧
 ∃l m K,b.cell ⟨a,2,none⟩=some (Value.slice l m K)∧
 ∃n,b.cell ⟨a,1,none⟩=some (Value.int .i64 n)∧
 NilP l fun N=>
 InB n m fun L=>
 elemAt N L 1 fun M=>
 ∃o,b.cell M=some (Value.int .u8 o)∧
 NewW b (Obj.cells ⟨[(Value.int .u8 o)]⟩ Zh) fun O A=>
 AppW Tryz.prog #[Zd,Zd] Zd [(Value.slice i k j),(Value.slice (some ⟨O,0,none⟩) 1 1)] A fun P B=>
 ∃p r q,P=Value.slice p r q∧
 Za B ⟨a,5,none⟩ (Value.slice p r q) fun c=>
 ∃s t Q,c.cell ⟨a,3,none⟩=some (Value.slice s t Q)∧
 ∃u,c.cell ⟨a,1,none⟩=some (Value.int .i64 u)∧
 NilP s fun T=>
 InB u t fun R=>
 elemAt T R 1 fun S=>
 Za c S (Value.bool false) fun C=>
 FnW Tryz.prog Zml ⟨[(Value.pointer (some ⟨a,0,none⟩)),(Value.int .i64 1)]⟩ C fun U D=>
 ∃v,U=Value.int .i64 v∧
 Za D ⟨a,1,none⟩ (Value.int .i64 v) fun d=>
 ∃w,d.cell ⟨a,4,none⟩=some (Value.int .i64 w)∧
 Za d ⟨a,4,none⟩ (Value.int .i64 (IntKind.wrap .i64 (w - 1))) fun e=>
 ∃x,e.cell ⟨a,0,none⟩=some (Value.int .u32 x)∧
 Za e ⟨a,0,none⟩ (Value.int .u32 (IntKind.wrap .u32 (x+1))) fun E=>
 G ((IntKind.wrap .i64 (f+1)),()) E)
def Zbqy (c:Nat) (a:Heap) (b:Value->Heap->Prop):Prop:=
 Zbk (Int×Unit) (0,()) a fun e a d=>∀f:Env,Zuv c e.1 a d b
theorem Zcjb (d:Nat) {a:Heap} {c:Value->Heap->Prop} (f:Zbqy d a fun g e=>∀b,Shut a e b->c g b):FnW Tryz.prog Zyj ⟨[(Value.pointer (some ⟨d,0,none⟩))]⟩ a c:=Zc Tryz.func215 ⟨[],[(2000000,[3],[.int .i64],[0])],[],[]⟩ (by kernel_rfl) (by kernel_rfl) f
def Zuw (a:Nat) (c:Int) (p:Bool) (b:Heap) (e:Value->Heap->Prop):Prop:=
 IfB p
 (e (Value.int .i64 2) b)
 (∃g,b.cell ⟨a,3,none⟩=some (Value.bool g)∧
 IfB (!g)
 ((2:Int)≠0∧
 Za b ⟨a,0,none⟩ (Value.int .i64 (IntKind.wrap .i64 (8*c))) fun l=>
 Za l ⟨a,1,none⟩ (Value.int .i64 (IntKind.wrap .i64 (Int.tdiv (IntKind.wrap .i64 (4*c)) 2))) fun m=>
 Za m ⟨a,3,none⟩ (Value.bool true) fun n=>
 e (Value.int .i64 0) n)
 (∃f,b.cell ⟨a,0,none⟩=some (Value.int .i64 f)∧
 (8:Int)≠0∧
 ∃h,b.cell ⟨a,1,none⟩=some (Value.int .i64 h)∧
 ∃i,b.cell ⟨a,1,none⟩=some (Value.int .i64 i)∧
 (4:Int)≠0∧
 Za b ⟨a,1,none⟩ (Value.int .i64 (IntKind.wrap .i64 (h+(IntKind.wrap .i64 ((max (IntKind.wrap .i64 ((IntKind.wrap .i64 (Int.tdiv f 8)) - c)) (IntKind.wrap .i64 (0 - (IntKind.wrap .i64 ((IntKind.wrap .i64 (Int.tdiv f 8)) - c))))) - (IntKind.wrap .i64 (Int.tdiv i 4))))))) fun d=>
 ∃j,d.cell ⟨a,0,none⟩=some (Value.int .i64 j)∧
 ∃k,d.cell ⟨a,0,none⟩=some (Value.int .i64 k)∧
 (8:Int)≠0∧
 Za d ⟨a,0,none⟩ (Value.int .i64 (IntKind.wrap .i64 (j+(IntKind.wrap .i64 (c - (IntKind.wrap .i64 (Int.tdiv k 8))))))) fun o=>
 e (Value.int .i64 0) o))
def Zbqz (d:Nat) (a:Int) (f:Heap) (c:Value->Heap->Prop):Prop:=
 FnW Tryz.prog Zlu ⟨[(Value.pointer (some ⟨d,0,none⟩))]⟩ f fun g b=>
 ∃e,g=Value.bool e∧
 IfB (!e)
 (c (Value.int .i64 1) b)
 (IfB (decide (a<0))
 (Zuw d a true b c)
 (Zuw d a (decide (a>100000)) b c))
theorem Zcjc (d:Nat) (e:Int) {a:Heap} {c:Value->Heap->Prop} (g:Zbqz d e a fun h f=>∀b,Shut a f b->c h b):FnW Tryz.prog Zyk ⟨[(Value.pointer (some ⟨d,0,none⟩)),(Value.int .i64 e)]⟩ a c:=Zc Tryz.func224 ⟨[],[],[],[]⟩ (by kernel_rfl) (by kernel_rfl) g
def Zbcp (c:Nat) (f:Int) (a:Heap) (e:Value->Heap->Prop):Prop:=
 ∃d,a.cell ⟨c,1,none⟩=some (Value.int .i64 d)∧
 ∃g b h,a.cell ⟨c,2,none⟩=some (Value.slice g b h)∧
 ((b:Int):Int)≠0∧
 e (Value.int .i64 (Int.tmod (IntKind.wrap .i64 (d+f)) (b:Int))) a
theorem Zbrp (e:Nat) (d:Int) {a:Heap} {c:Value->Heap->Prop} (g:Zbcp e d a fun h f=>∀b,Shut a f b->c h b):FnW Tryz.prog Zml ⟨[(Value.pointer (some ⟨e,0,none⟩)),(Value.int .i64 d)]⟩ a c:=Zc Tryz.func225 ⟨[],[],[],[]⟩ (by kernel_rfl) (by kernel_rfl) g
end Go.Proofs.YtaljkjokbdpdoaaGreat
end
