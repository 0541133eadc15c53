/-
 NUMBERS BY NAME:printed by a program of ours over this translation.
-/
import Derived.Test.YthhcfdpoiganhaaGreatED
import Derived.Test.YthhcfdpoiganhaaGreatRows
import Derived.Test.YthhcfdpoiganhaaGreatEB
set_option linter.all false
section
set_option maxRecDepth 100000
set_option maxHeartbeats 4000000
namespace Go.Proofs.YthhcfdpoiganhaaGreat
open Go.Sh
def Zg (fn:Func):Code:=match fn.body with | some c=>c | none=> .skip
abbrev Zjc:TypeId:=3
abbrev Zbky:TypeId:=4
abbrev Zcf:TypeId:=5
abbrev Zey:TypeId:=22
abbrev Zdm:TypeId:=25
abbrev Zha:TypeId:=28
abbrev Zls:TypeId:=30
abbrev Zeq:TypeId:=31
abbrev Zhr:TypeId:=33
abbrev Zbr:TypeId:=35
abbrev Zmn:TypeId:=43
abbrev Zjq:TypeId:=45
abbrev Zcjf:TypeId:=49
abbrev Zbdu:TypeId:=50
abbrev Zbbp:TypeId:=67
abbrev Zcdw:TypeId:=73
abbrev Zcl:TypeId:=88
abbrev Zpa:TypeId:=98
abbrev Zvr:TypeId:=114
abbrev Zea:TypeId:=117
abbrev Zkh:TypeId:=119
abbrev Ziq:TypeId:=128
abbrev Zcca:FuncId:=3
abbrev Zbai:FuncId:=4
abbrev Zbhw:FuncId:=5
abbrev Ztd:FuncId:=6
abbrev Zblo:FuncId:=7
abbrev Zxu:FuncId:=8
abbrev Zwy:FuncId:=9
abbrev Zbad:FuncId:=10
abbrev Zbaj:FuncId:=11
abbrev Zbek:FuncId:=12
abbrev Zbgm:FuncId:=13
abbrev Zbdr:FuncId:=14
abbrev Zzg:FuncId:=15
abbrev Zbcn:FuncId:=16
abbrev Zbpo:FuncId:=17
abbrev Zrx:FuncId:=18
abbrev Zob:FuncId:=19
abbrev Zgx:FuncId:=20
abbrev Zrz:FuncId:=21
abbrev Zju:FuncId:=22
abbrev Zzk:FuncId:=23
abbrev Zbjm:FuncId:=24
abbrev Zwm:FuncId:=25
abbrev Zbfv:FuncId:=26
abbrev Znr:FuncId:=27
abbrev Zbbx:FuncId:=28
abbrev Zbdc:FuncId:=29
abbrev Zbbt:FuncId:=30
abbrev Zbfi:FuncId:=31
abbrev Zzw:FuncId:=32
abbrev Zst:FuncId:=33
abbrev Zpt:FuncId:=34
abbrev Zqo:FuncId:=35
abbrev Zuz:FuncId:=36
abbrev Zxr:FuncId:=37
abbrev Zbgp:FuncId:=38
abbrev Zbep:FuncId:=39
abbrev Zzo:FuncId:=40
abbrev Zvf:FuncId:=41
abbrev Znp:FuncId:=42
abbrev Zbbz:FuncId:=43
abbrev Zbea:FuncId:=44
abbrev Zut:FuncId:=45
abbrev Zbfh:FuncId:=46
abbrev Zqs:FuncId:=47
abbrev Zwi:FuncId:=48
abbrev Zqf:FuncId:=49
abbrev Zrl:FuncId:=50
abbrev Zlp:FuncId:=51
abbrev Zwx:FuncId:=52
abbrev Zbbd:FuncId:=53
abbrev Zht:FuncId:=54
abbrev Ztn:FuncId:=55
abbrev Zzs:FuncId:=56
abbrev Zbld:FuncId:=57
abbrev Zbbi:FuncId:=58
abbrev Zbig:FuncId:=59
abbrev Zbdn:FuncId:=60
abbrev Zzl:FuncId:=61
abbrev Zjr:FuncId:=62
abbrev Zle:FuncId:=63
abbrev Zoe:FuncId:=64
abbrev Zwc:FuncId:=65
abbrev Zwq:FuncId:=66
abbrev Zban:FuncId:=67
abbrev Zqv:FuncId:=68
abbrev Zbdd:FuncId:=69
abbrev Zbex:FuncId:=70
abbrev Zbcx:FuncId:=71
abbrev Zto:FuncId:=72
abbrev Zxs:FuncId:=73
abbrev Zbch:FuncId:=74
abbrev Zmc:FuncId:=75
abbrev Zbfn:FuncId:=76
abbrev Zbds:FuncId:=77
abbrev Znf:FuncId:=78
abbrev Zbck:FuncId:=79
abbrev Znn:FuncId:=80
abbrev Zbfj:FuncId:=81
abbrev Zvt:FuncId:=82
abbrev Zzb:FuncId:=83
abbrev Zhc:FuncId:=84
abbrev Zbge:FuncId:=85
abbrev Zqx:FuncId:=86
abbrev Zld:FuncId:=87
abbrev Zbeu:FuncId:=88
abbrev Zbdm:FuncId:=94
abbrev Zbbq:FuncId:=95
abbrev Zbeq:FuncId:=96
abbrev Zqa:FuncId:=97
abbrev Zbax:FuncId:=98
abbrev Zbaw:FuncId:=99
abbrev Zbbc:FuncId:=100
abbrev Zsk:FuncId:=101
abbrev Zben:FuncId:=102
abbrev Zwo:FuncId:=103
abbrev Zun:FuncId:=104
abbrev Zbnp:FuncId:=105
abbrev Zbcr:FuncId:=106
abbrev Zro:FuncId:=107
abbrev Zbfa:FuncId:=108
abbrev Zbfo:FuncId:=109
abbrev Zbao:FuncId:=110
abbrev Zbcd:FuncId:=113
abbrev Zdnb:FuncId:=114
abbrev Zdau:FuncId:=115
abbrev Znx:FuncId:=116
abbrev Zxf:FuncId:=117
abbrev Zbcc:FuncId:=118
abbrev Zbdg:FuncId:=119
abbrev Zid:FuncId:=121
instance:Laid:=⟨fun _=>false,fun _=>True⟩
end Go.Proofs.YthhcfdpoiganhaaGreat
end
section
set_option maxRecDepth 100000
namespace Go.Proofs.YthhcfdpoiganhaaGreat
open Go.Sh
def Zcay:Plan:=⟨[],[(3,[5,12],[.slice,.int .i64],[1,10,11]),(6,[18],[.int .i64],[1,5,7,10,11,12,16,17])],[],[]⟩
theorem Zcok:Known Tryz.prog Zob Tryz.f19 Zcay (Zg Tryz.f19):=by refine ⟨Tryz.func19,?_,?_,?_,?_,?_⟩<;>kernel_rfl
def Zbha (f:FuncId) (l0a:Option Addr) (l0n:Nat) (l0c:Nat) (x12:Int) (next3:((Option Addr×Nat×Nat)×Int×Unit)->Heap->Prop) (next6:(Int×Unit)->Heap->Prop) (out5a_1:Option Addr) (out5n_1:Nat) (out5c_1:Nat) (H24:Heap) (R:Value->Heap->Prop):Prop:=
 next3 ((out5a_1,out5n_1,out5c_1),((IntKind.wrap .i64 (x12+1)),())) H24
def Zrv (f:FuncId) (out5a:Option Addr) (out5n:Nat) (out5c:Nat) (x7b:Nat) (l0a:Option Addr) (l0n:Nat) (l0c:Nat) (x12:Int) (next3:((Option Addr×Nat×Nat)×Int×Unit)->Heap->Prop) (x18:Int) (H19:Heap) (next6:(Int×Unit)->Heap->Prop) (R:Value->Heap->Prop):Prop:=
 IfB (decide ((x18:Int)<(out5n:Int)))
 (NilP out5a fun x21q=>
 InB x18 out5n fun x21i=>
 elemAt x21q x21i 1 fun x21p=>
 ∃(x22a:Option Addr) (x22n x22c:Nat),H19.cell x21p=some (Value.slice x22a x22n x22c)∧
 NilP x22a fun x25q=>
 InB 0 x22n fun x25i=>
 elemAt x25q x25i 16 fun x25p=>
 ∃x26c0:Int,H19.cell x25p=some (Value.int .u32 x26c0)∧∃x26c1:Int,H19.cell ⟨x25p.block,x25p.off+1,none⟩=some (Value.int .i64 x26c1)∧∃x26c2:Int,H19.cell ⟨x25p.block,x25p.off+2,none⟩=some (Value.int .i64 x26c2)∧∃(x26c3a:Option Addr) (x26c3n x26c3c:Nat),H19.cell ⟨x25p.block,x25p.off+3,none⟩=some (Value.slice x26c3a x26c3n x26c3c)∧∃x26c4:Int,H19.cell ⟨x25p.block,x25p.off+4,none⟩=some (Value.int .u32 x26c4)∧∃x26c5:Bool,H19.cell ⟨x25p.block,x25p.off+5,none⟩=some (Value.bool x26c5)∧∃x26c6:Int,H19.cell ⟨x25p.block,x25p.off+6,none⟩=some (Value.int .u32 x26c6)∧∃x26c7:Bool,H19.cell ⟨x25p.block,x25p.off+7,none⟩=some (Value.bool x26c7)∧∃x26c8:Int,H19.cell ⟨x25p.block,x25p.off+8,none⟩=some (Value.int .u32 x26c8)∧∃x26c9:Bool,H19.cell ⟨x25p.block,x25p.off+9,none⟩=some (Value.bool x26c9)∧∃x26c10:Bool,H19.cell ⟨x25p.block,x25p.off+10,none⟩=some (Value.bool x26c10)∧∃x26c11:Int,H19.cell ⟨x25p.block,x25p.off+11,none⟩=some (Value.int .u32 x26c11)∧∃x26c12:Int,H19.cell ⟨x25p.block,x25p.off+12,none⟩=some (Value.int .u32 x26c12)∧∃(x26c13a:Option Addr) (x26c13n x26c13c:Nat),H19.cell ⟨x25p.block,x25p.off+13,none⟩=some (Value.slice x26c13a x26c13n x26c13c)∧∃(x26c14a:Option Addr) (x26c14n x26c14c:Nat),H19.cell ⟨x25p.block,x25p.off+14,none⟩=some (Value.slice x26c14a x26c14n x26c14c)∧∃x26c15:Bool,H19.cell ⟨x25p.block,x25p.off+15,none⟩=some (Value.bool x26c15)∧∃x27c0:Int,H19.cell ⟨x7b,0,none⟩=some (Value.int .u32 x27c0)∧∃x27c1:Int,H19.cell ⟨x7b,1,none⟩=some (Value.int .i64 x27c1)∧∃x27c2:Int,H19.cell ⟨x7b,2,none⟩=some (Value.int .i64 x27c2)∧∃(x27c3a:Option Addr) (x27c3n x27c3c:Nat),H19.cell ⟨x7b,3,none⟩=some (Value.slice x27c3a x27c3n x27c3c)∧∃x27c4:Int,H19.cell ⟨x7b,4,none⟩=some (Value.int .u32 x27c4)∧∃x27c5:Bool,H19.cell ⟨x7b,5,none⟩=some (Value.bool x27c5)∧∃x27c6:Int,H19.cell ⟨x7b,6,none⟩=some (Value.int .u32 x27c6)∧∃x27c7:Bool,H19.cell ⟨x7b,7,none⟩=some (Value.bool x27c7)∧∃x27c8:Int,H19.cell ⟨x7b,8,none⟩=some (Value.int .u32 x27c8)∧∃x27c9:Bool,H19.cell ⟨x7b,9,none⟩=some (Value.bool x27c9)∧∃x27c10:Bool,H19.cell ⟨x7b,10,none⟩=some (Value.bool x27c10)∧∃x27c11:Int,H19.cell ⟨x7b,11,none⟩=some (Value.int .u32 x27c11)∧∃x27c12:Int,H19.cell ⟨x7b,12,none⟩=some (Value.int .u32 x27c12)∧∃(x27c13a:Option Addr) (x27c13n x27c13c:Nat),H19.cell ⟨x7b,13,none⟩=some (Value.slice x27c13a x27c13n x27c13c)∧∃(x27c14a:Option Addr) (x27c14n x27c14c:Nat),H19.cell ⟨x7b,14,none⟩=some (Value.slice x27c14a x27c14n x27c14c)∧∃x27c15:Bool,H19.cell ⟨x7b,15,none⟩=some (Value.bool x27c15)∧FnW Tryz.prog f ⟨[(Value.agg ⟨[(Value.int .u32 x26c0),(Value.int .i64 x26c1),(Value.int .i64 x26c2),(Value.slice x26c3a x26c3n x26c3c),(Value.int .u32 x26c4),(Value.bool x26c5),(Value.int .u32 x26c6),(Value.bool x26c7),(Value.int .u32 x26c8),(Value.bool x26c9),(Value.bool x26c10),(Value.int .u32 x26c11),(Value.int .u32 x26c12),(Value.slice x26c13a x26c13n x26c13c),(Value.slice x26c14a x26c14n x26c14c),(Value.bool x26c15)]⟩),(Value.agg ⟨[(Value.int .u32 x27c0),(Value.int .i64 x27c1),(Value.int .i64 x27c2),(Value.slice x27c3a x27c3n x27c3c),(Value.int .u32 x27c4),(Value.bool x27c5),(Value.int .u32 x27c6),(Value.bool x27c7),(Value.int .u32 x27c8),(Value.bool x27c9),(Value.bool x27c10),(Value.int .u32 x27c11),(Value.int .u32 x27c12),(Value.slice x27c13a x27c13n x27c13c),(Value.slice x27c14a x27c14n x27c14c),(Value.bool x27c15)]⟩)]⟩ H19 fun x28v H20=>
 ∃x28:Bool,x28v=(Value.bool x28)∧
 IfB x28
 (∃x32c0:Int,H20.cell ⟨x7b,0,none⟩=some (Value.int .u32 x32c0)∧∃x32c1:Int,H20.cell ⟨x7b,1,none⟩=some (Value.int .i64 x32c1)∧∃x32c2:Int,H20.cell ⟨x7b,2,none⟩=some (Value.int .i64 x32c2)∧∃(x32c3a:Option Addr) (x32c3n x32c3c:Nat),H20.cell ⟨x7b,3,none⟩=some (Value.slice x32c3a x32c3n x32c3c)∧∃x32c4:Int,H20.cell ⟨x7b,4,none⟩=some (Value.int .u32 x32c4)∧∃x32c5:Bool,H20.cell ⟨x7b,5,none⟩=some (Value.bool x32c5)∧∃x32c6:Int,H20.cell ⟨x7b,6,none⟩=some (Value.int .u32 x32c6)∧∃x32c7:Bool,H20.cell ⟨x7b,7,none⟩=some (Value.bool x32c7)∧∃x32c8:Int,H20.cell ⟨x7b,8,none⟩=some (Value.int .u32 x32c8)∧∃x32c9:Bool,H20.cell ⟨x7b,9,none⟩=some (Value.bool x32c9)∧∃x32c10:Bool,H20.cell ⟨x7b,10,none⟩=some (Value.bool x32c10)∧∃x32c11:Int,H20.cell ⟨x7b,11,none⟩=some (Value.int .u32 x32c11)∧∃x32c12:Int,H20.cell ⟨x7b,12,none⟩=some (Value.int .u32 x32c12)∧∃(x32c13a:Option Addr) (x32c13n x32c13c:Nat),H20.cell ⟨x7b,13,none⟩=some (Value.slice x32c13a x32c13n x32c13c)∧∃(x32c14a:Option Addr) (x32c14n x32c14c:Nat),H20.cell ⟨x7b,14,none⟩=some (Value.slice x32c14a x32c14n x32c14c)∧∃x32c15:Bool,H20.cell ⟨x7b,15,none⟩=some (Value.bool x32c15)∧NewW H20 (Obj.cells ⟨[(Value.int .u32 x32c0),(Value.int .i64 x32c1),(Value.int .i64 x32c2),(Value.slice x32c3a x32c3n x32c3c),(Value.int .u32 x32c4),(Value.bool x32c5),(Value.int .u32 x32c6),(Value.bool x32c7),(Value.int .u32 x32c8),(Value.bool x32c9),(Value.bool x32c10),(Value.int .u32 x32c11),(Value.int .u32 x32c12),(Value.slice x32c13a x32c13n x32c13c),(Value.slice x32c14a x32c14n x32c14c),(Value.bool x32c15)]⟩ Zbr) fun x33b H21=>
 AppW Tryz.prog #[Zey,Zey] Zey [(Value.slice x22a x22n x22c),(Value.slice (some ⟨x33b,0,none⟩) 1 1)] H21 fun x34v H22=>
 ∃(x34a:Option Addr) (x34n x34c:Nat),x34v=(Value.slice x34a x34n x34c)∧
 NilP out5a fun x35q=>
 InB x18 out5n fun x35i=>
 elemAt x35q x35i 1 fun x35p=>
 Zc H22 x35p (Value.slice x34a x34n x34c) fun H23=>
 Zbha f l0a l0n l0c x12 next3 next6 out5a out5n out5c H23 R)
 (next6 ((IntKind.wrap .i64 (x18+1)),()) H20))
 (∃x38c0:Int,H19.cell ⟨x7b,0,none⟩=some (Value.int .u32 x38c0)∧∃x38c1:Int,H19.cell ⟨x7b,1,none⟩=some (Value.int .i64 x38c1)∧∃x38c2:Int,H19.cell ⟨x7b,2,none⟩=some (Value.int .i64 x38c2)∧∃(x38c3a:Option Addr) (x38c3n x38c3c:Nat),H19.cell ⟨x7b,3,none⟩=some (Value.slice x38c3a x38c3n x38c3c)∧∃x38c4:Int,H19.cell ⟨x7b,4,none⟩=some (Value.int .u32 x38c4)∧∃x38c5:Bool,H19.cell ⟨x7b,5,none⟩=some (Value.bool x38c5)∧∃x38c6:Int,H19.cell ⟨x7b,6,none⟩=some (Value.int .u32 x38c6)∧∃x38c7:Bool,H19.cell ⟨x7b,7,none⟩=some (Value.bool x38c7)∧∃x38c8:Int,H19.cell ⟨x7b,8,none⟩=some (Value.int .u32 x38c8)∧∃x38c9:Bool,H19.cell ⟨x7b,9,none⟩=some (Value.bool x38c9)∧∃x38c10:Bool,H19.cell ⟨x7b,10,none⟩=some (Value.bool x38c10)∧∃x38c11:Int,H19.cell ⟨x7b,11,none⟩=some (Value.int .u32 x38c11)∧∃x38c12:Int,H19.cell ⟨x7b,12,none⟩=some (Value.int .u32 x38c12)∧∃(x38c13a:Option Addr) (x38c13n x38c13c:Nat),H19.cell ⟨x7b,13,none⟩=some (Value.slice x38c13a x38c13n x38c13c)∧∃(x38c14a:Option Addr) (x38c14n x38c14c:Nat),H19.cell ⟨x7b,14,none⟩=some (Value.slice x38c14a x38c14n x38c14c)∧∃x38c15:Bool,H19.cell ⟨x7b,15,none⟩=some (Value.bool x38c15)∧NewW H19 (Obj.cells ⟨[(Value.int .u32 x38c0),(Value.int .i64 x38c1),(Value.int .i64 x38c2),(Value.slice x38c3a x38c3n x38c3c),(Value.int .u32 x38c4),(Value.bool x38c5),(Value.int .u32 x38c6),(Value.bool x38c7),(Value.int .u32 x38c8),(Value.bool x38c9),(Value.bool x38c10),(Value.int .u32 x38c11),(Value.int .u32 x38c12),(Value.slice x38c13a x38c13n x38c13c),(Value.slice x38c14a x38c14n x38c14c),(Value.bool x38c15)]⟩ Zbr) fun x39b H25=>
 NewW H25 (Obj.cells ⟨[(Value.slice (some ⟨x39b,0,none⟩) 1 1)]⟩ Zey) fun x40b H26=>
 AppW Tryz.prog #[Zbbp,Zbbp] Zbbp [(Value.slice out5a out5n out5c),(Value.slice (some ⟨x40b,0,none⟩) 1 1)] H26 fun x41v H27=>
 ∃(x41a:Option Addr) (x41n x41c:Nat),x41v=(Value.slice x41a x41n x41c)∧
 Zbha f l0a l0n l0c x12 next3 next6 x41a x41n x41c H27 R)
def Zbhq (f:FuncId) (l0a:Option Addr) (l0n:Nat) (l0c:Nat) (out5a:Option Addr) (out5n:Nat) (out5c:Nat) (x12:Int) (H1:Heap) (next3:((Option Addr×Nat×Nat)×Int×Unit)->Heap->Prop) (R:Value->Heap->Prop):Prop:=
 IfB (decide ((x12:Int)<(l0n:Int)))
 (NilP l0a fun x14q=>
 InB x12 l0n fun x14i=>
 elemAt x14q x14i 16 fun x14p=>
 ∃x15c0:Int,H1.cell x14p=some (Value.int .u32 x15c0)∧∃x15c1:Int,H1.cell ⟨x14p.block,x14p.off+1,none⟩=some (Value.int .i64 x15c1)∧∃x15c2:Int,H1.cell ⟨x14p.block,x14p.off+2,none⟩=some (Value.int .i64 x15c2)∧∃(x15c3a:Option Addr) (x15c3n x15c3c:Nat),H1.cell ⟨x14p.block,x14p.off+3,none⟩=some (Value.slice x15c3a x15c3n x15c3c)∧∃x15c4:Int,H1.cell ⟨x14p.block,x14p.off+4,none⟩=some (Value.int .u32 x15c4)∧∃x15c5:Bool,H1.cell ⟨x14p.block,x14p.off+5,none⟩=some (Value.bool x15c5)∧∃x15c6:Int,H1.cell ⟨x14p.block,x14p.off+6,none⟩=some (Value.int .u32 x15c6)∧∃x15c7:Bool,H1.cell ⟨x14p.block,x14p.off+7,none⟩=some (Value.bool x15c7)∧∃x15c8:Int,H1.cell ⟨x14p.block,x14p.off+8,none⟩=some (Value.int .u32 x15c8)∧∃x15c9:Bool,H1.cell ⟨x14p.block,x14p.off+9,none⟩=some (Value.bool x15c9)∧∃x15c10:Bool,H1.cell ⟨x14p.block,x14p.off+10,none⟩=some (Value.bool x15c10)∧∃x15c11:Int,H1.cell ⟨x14p.block,x14p.off+11,none⟩=some (Value.int .u32 x15c11)∧∃x15c12:Int,H1.cell ⟨x14p.block,x14p.off+12,none⟩=some (Value.int .u32 x15c12)∧∃(x15c13a:Option Addr) (x15c13n x15c13c:Nat),H1.cell ⟨x14p.block,x14p.off+13,none⟩=some (Value.slice x15c13a x15c13n x15c13c)∧∃(x15c14a:Option Addr) (x15c14n x15c14c:Nat),H1.cell ⟨x14p.block,x14p.off+14,none⟩=some (Value.slice x15c14a x15c14n x15c14c)∧∃x15c15:Bool,H1.cell ⟨x14p.block,x14p.off+15,none⟩=some (Value.bool x15c15)∧NewW H1 (Obj.cells ⟨[(Value.int .u32 0),(Value.int .i64 0),(Value.int .i64 0),(Value.slice none 0 0),(Value.int .u32 0),(Value.bool false),(Value.int .u32 0),(Value.bool false),(Value.int .u32 0),(Value.bool false),(Value.bool false),(Value.int .u32 0),(Value.int .u32 0),(Value.slice none 0 0),(Value.slice none 0 0),(Value.bool false)]⟩ Zbr) fun x7b H2=>
 Zc H2 ⟨x7b,0,none⟩ (Value.int .u32 x15c0) fun H3=>
 Zc H3 ⟨x7b,1,none⟩ (Value.int .i64 x15c1) fun H4=>
 Zc H4 ⟨x7b,2,none⟩ (Value.int .i64 x15c2) fun H5=>
 Zc H5 ⟨x7b,3,none⟩ (Value.slice x15c3a x15c3n x15c3c) fun H6=>
 Zc H6 ⟨x7b,4,none⟩ (Value.int .u32 x15c4) fun H7=>
 Zc H7 ⟨x7b,5,none⟩ (Value.bool x15c5) fun H8=>
 Zc H8 ⟨x7b,6,none⟩ (Value.int .u32 x15c6) fun H9=>
 Zc H9 ⟨x7b,7,none⟩ (Value.bool x15c7) fun H10=>
 Zc H10 ⟨x7b,8,none⟩ (Value.int .u32 x15c8) fun H11=>
 Zc H11 ⟨x7b,9,none⟩ (Value.bool x15c9) fun H12=>
 Zc H12 ⟨x7b,10,none⟩ (Value.bool x15c10) fun H13=>
 Zc H13 ⟨x7b,11,none⟩ (Value.int .u32 x15c11) fun H14=>
 Zc H14 ⟨x7b,12,none⟩ (Value.int .u32 x15c12) fun H15=>
 Zc H15 ⟨x7b,13,none⟩ (Value.slice x15c13a x15c13n x15c13c) fun H16=>
 Zc H16 ⟨x7b,14,none⟩ (Value.slice x15c14a x15c14n x15c14c) fun H17=>
 Zc H17 ⟨x7b,15,none⟩ (Value.bool x15c15) fun H18=>
 Zil (Int×Unit) (0,()) H18 fun x H next=>∀_g:Env,Zrv f out5a out5n out5c x7b l0a l0n l0c x12 next3 x.1 H next R)
 (R (Value.slice out5a out5n out5c) H1)
def Zblz (l0a:Option Addr) (l0n:Nat) (l0c:Nat) (f:FuncId) (H:Heap) (R:Value->Heap->Prop):Prop:=
 Zil ((Option Addr×Nat×Nat)×Int×Unit) ((none,0,0),(0,())) H fun x H next=>∀_g:Env,Zbhq f l0a l0n l0c x.1.1 x.1.2.1 x.1.2.2 x.2.1 H next R
theorem Zcmt (l0a:Option Addr) (l0n:Nat) (l0c:Nat) (f:FuncId) (H:Heap) (R:Value->Heap->Prop):Zblz l0a l0n l0c f H R=Zd Tryz.prog Zcay (Zg Tryz.f19) (env0 [(Value.slice l0a l0n l0c),(Value.func (.func f) #[] #[])]) H (RetW Tryz.prog Tryz.f19.results.toList R):=by kernel_rfl
theorem Zdns (l0a:Option Addr) (l0n:Nat) (l0c:Nat) (f:FuncId) {H:Heap} {R:Value->Heap->Prop} (h:Zblz l0a l0n l0c f H fun v H1=>∀H2,Shut H H1 H2->R v H2):FnW Tryz.prog Zob ⟨[(Value.slice l0a l0n l0c),(Value.func (.func f) #[] #[])]⟩ H R:=FnW.of_code Zcok (by kernel_rfl) (Eq.mp (Zcmt l0a l0n l0c f H _) h)
def Zbvy:Plan:=⟨[(5,[0,1,2,5,3,4,6],[19])],[(3,[4,5,10],[.slice,.int .i64,.int .i64],[0,2,8,9])],[],[]⟩
theorem Zdcn:Known Tryz.prog Zqo Tryz.f35 Zbvy (Zg Tryz.f35):=by refine ⟨Tryz.func35,?_,?_,?_,?_,?_⟩<;>kernel_rfl
def Zbhm (l:Nat) (b2:Nat) (c7b:Nat) (x8a:Option Addr) (x8n:Nat) (x8c:Nat) (x10:Int) (next3:((Option Addr×Nat×Nat)×Int×Int×Unit)->Heap->Prop) (now4a_1:Option Addr) (now4n_1:Nat) (now4c_1:Nat) (n5_1:Int) (H21:Heap) (R:Value->Heap->Prop):Prop:=
 ∃x27c0:Int,H21.cell ⟨c7b,0,none⟩=some (Value.int .u32 x27c0)∧∃x27c1:Int,H21.cell ⟨c7b,1,none⟩=some (Value.int .i64 x27c1)∧NewW H21 (Obj.cells ⟨[(Value.int .u32 x27c0),(Value.int .i64 x27c1)]⟩ Zha) fun x28b H22=>
 AppW Tryz.prog #[Zbdu,Zbdu] Zbdu [(Value.slice now4a_1 now4n_1 now4c_1),(Value.slice (some ⟨x28b,0,none⟩) 1 1)] H22 fun x29v H23=>
 ∃(x29a:Option Addr) (x29n x29c:Nat),x29v=(Value.slice x29a x29n x29c)∧
 ∃x32c0:Int,H23.cell ⟨c7b,0,none⟩=some (Value.int .u32 x32c0)∧∃x32c1:Int,H23.cell ⟨c7b,1,none⟩=some (Value.int .i64 x32c1)∧FnW Tryz.prog Zuz ⟨[(Value.agg ⟨[(Value.int .u32 x32c0),(Value.int .i64 x32c1)]⟩)]⟩ H23 fun x33v H24=>
 ∃x33:Int,x33v=(Value.int .i64 x33)∧
 next3 ((x29a,x29n,x29c),((IntKind.wrap .i64 (n5_1+x33)),((IntKind.wrap .i64 (x10+1)),()))) H24
def Zvb (l:Nat) (b2:Nat) (x8a:Option Addr) (x8n:Nat) (x8c:Nat) (now4a:Option Addr) (now4n:Nat) (now4c:Nat) (n5:Int) (x10:Int) (H1:Heap) (next3:((Option Addr×Nat×Nat)×Int×Int×Unit)->Heap->Prop) (R:Value->Heap->Prop):Prop:=
 IfB (decide ((x10:Int)<(x8n:Int)))
 (NilP x8a fun x12q=>
 InB x10 x8n fun x12i=>
 elemAt x12q x12i 16 fun x12p=>
 ∃x13c0:Int,H1.cell x12p=some (Value.int .u32 x13c0)∧∃x13c1:Int,H1.cell ⟨x12p.block,x12p.off+1,none⟩=some (Value.int .i64 x13c1)∧∃x13c2:Int,H1.cell ⟨x12p.block,x12p.off+2,none⟩=some (Value.int .i64 x13c2)∧∃(x13c3a:Option Addr) (x13c3n x13c3c:Nat),H1.cell ⟨x12p.block,x12p.off+3,none⟩=some (Value.slice x13c3a x13c3n x13c3c)∧∃x13c4:Int,H1.cell ⟨x12p.block,x12p.off+4,none⟩=some (Value.int .u32 x13c4)∧∃x13c5:Bool,H1.cell ⟨x12p.block,x12p.off+5,none⟩=some (Value.bool x13c5)∧∃x13c6:Int,H1.cell ⟨x12p.block,x12p.off+6,none⟩=some (Value.int .u32 x13c6)∧∃x13c7:Bool,H1.cell ⟨x12p.block,x12p.off+7,none⟩=some (Value.bool x13c7)∧∃x13c8:Int,H1.cell ⟨x12p.block,x12p.off+8,none⟩=some (Value.int .u32 x13c8)∧∃x13c9:Bool,H1.cell ⟨x12p.block,x12p.off+9,none⟩=some (Value.bool x13c9)∧∃x13c10:Bool,H1.cell ⟨x12p.block,x12p.off+10,none⟩=some (Value.bool x13c10)∧∃x13c11:Int,H1.cell ⟨x12p.block,x12p.off+11,none⟩=some (Value.int .u32 x13c11)∧∃x13c12:Int,H1.cell ⟨x12p.block,x12p.off+12,none⟩=some (Value.int .u32 x13c12)∧∃(x13c13a:Option Addr) (x13c13n x13c13c:Nat),H1.cell ⟨x12p.block,x12p.off+13,none⟩=some (Value.slice x13c13a x13c13n x13c13c)∧∃(x13c14a:Option Addr) (x13c14n x13c14c:Nat),H1.cell ⟨x12p.block,x12p.off+14,none⟩=some (Value.slice x13c14a x13c14n x13c14c)∧∃x13c15:Bool,H1.cell ⟨x12p.block,x12p.off+15,none⟩=some (Value.bool x13c15)∧NewW H1 (Obj.cells ⟨[(Value.int .u32 0),(Value.int .i64 0),(Value.int .i64 0),(Value.slice none 0 0),(Value.int .u32 0),(Value.bool false),(Value.int .u32 0),(Value.bool false),(Value.int .u32 0),(Value.bool false),(Value.bool false),(Value.int .u32 0),(Value.int .u32 0),(Value.slice none 0 0),(Value.slice none 0 0),(Value.bool false)]⟩ Zbr) fun c7b H2=>
 Zc H2 ⟨c7b,0,none⟩ (Value.int .u32 x13c0) fun H3=>
 Zc H3 ⟨c7b,1,none⟩ (Value.int .i64 x13c1) fun H4=>
 Zc H4 ⟨c7b,2,none⟩ (Value.int .i64 x13c2) fun H5=>
 Zc H5 ⟨c7b,3,none⟩ (Value.slice x13c3a x13c3n x13c3c) fun H6=>
 Zc H6 ⟨c7b,4,none⟩ (Value.int .u32 x13c4) fun H7=>
 Zc H7 ⟨c7b,5,none⟩ (Value.bool x13c5) fun H8=>
 Zc H8 ⟨c7b,6,none⟩ (Value.int .u32 x13c6) fun H9=>
 Zc H9 ⟨c7b,7,none⟩ (Value.bool x13c7) fun H10=>
 Zc H10 ⟨c7b,8,none⟩ (Value.int .u32 x13c8) fun H11=>
 Zc H11 ⟨c7b,9,none⟩ (Value.bool x13c9) fun H12=>
 Zc H12 ⟨c7b,10,none⟩ (Value.bool x13c10) fun H13=>
 Zc H13 ⟨c7b,11,none⟩ (Value.int .u32 x13c11) fun H14=>
 Zc H14 ⟨c7b,12,none⟩ (Value.int .u32 x13c12) fun H15=>
 Zc H15 ⟨c7b,13,none⟩ (Value.slice x13c13a x13c13n x13c13c) fun H16=>
 Zc H16 ⟨c7b,14,none⟩ (Value.slice x13c14a x13c14n x13c14c) fun H17=>
 Zc H17 ⟨c7b,15,none⟩ (Value.bool x13c15) fun H18=>
 ∃bs:List Nat,(∀b∈bs,∃o,H18 b=some o)∧
 ∃x16c0:Int,H18.cell ⟨c7b,0,none⟩=some (Value.int .u32 x16c0)∧∃x16c1:Int,H18.cell ⟨c7b,1,none⟩=some (Value.int .i64 x16c1)∧b2∈bs∧∃x19:Int,H18.cell ⟨b2,0,none⟩=some (Value.int .i64 x19)∧
 FnW Tryz.prog Zuz ⟨[(Value.agg ⟨[(Value.int .u32 x16c0),(Value.int .i64 x16c1)]⟩)]⟩ H18 fun x17v H19=>
 ∃x17:Int,x17v=(Value.int .i64 x17)∧
 Zes bs H18 H19∧IfB (decide (((IntKind.wrap .i64 (n5+x17)):Int)>x19))
 (Zds Tryz.prog l [(Value.slice now4a now4n now4c)] H19 fun x23v H20=>
 ∃x23:Bool,x23v=(Value.bool x23)∧
 IfB (!x23)
 (R (Value.tuple ⟨[]⟩) H20)
 (Zbhm l b2 c7b x8a x8n x8c x10 next3 none 0 0 0 H20 R))
 (Zbhm l b2 c7b x8a x8n x8c x10 next3 now4a now4n now4c n5 H19 R))
 (IfB (decide (((now4n:Int):Int)>0))
 (Zds Tryz.prog l [(Value.slice now4a now4n now4c)] H1 fun x41v H25=>
 ∃x41:Bool,x41v=(Value.bool x41)∧
 R (Value.tuple ⟨[]⟩) H25)
 (R (Value.tuple ⟨[]⟩) H1))
def Zbia (l:Nat) (b1:Nat) (b2:Nat) (H:Heap) (R:Value->Heap->Prop):Prop:=
 ∃(x8a:Option Addr) (x8n x8c:Nat),H.cell ⟨b1,0,none⟩=some (Value.slice x8a x8n x8c)∧
 Zil ((Option Addr×Nat×Nat)×Int×Int×Unit) ((none,0,0),(0,(0,()))) H fun x H next=>∀_g:Env,Zvb l b2 x8a x8n x8c x.1.1 x.1.2.1 x.1.2.2 x.2.1 x.2.2.1 H next R
theorem Zdax (l:Nat) (b1:Nat) (b2:Nat) (H:Heap) (R:Value->Heap->Prop):Zbia l b1 b2 H R=Zd Tryz.prog Zbvy (Zg Tryz.f35) (env0 [(Value.func (.yield l) #[] #[]),(Value.pointer (some ⟨b1,0,none⟩)),(Value.pointer (some ⟨b2,0,none⟩))]) H (RetW Tryz.prog Tryz.f35.results.toList R):=by kernel_rfl
theorem Zcup (l:Nat) (b1:Nat) (b2:Nat) {H:Heap} {R:Value->Heap->Prop} (h:Zbia l b1 b2 H fun v H1=>∀H2,Shut H H1 H2->R v H2):FnW Tryz.prog Zqo ⟨[(Value.func (.yield l) #[] #[]),(Value.pointer (some ⟨b1,0,none⟩)),(Value.pointer (some ⟨b2,0,none⟩))]⟩ H R:=FnW.of_code Zdcn (by kernel_rfl) (Eq.mp (Zdax l b1 b2 H _) h)
def Zcdk:Plan:=⟨[],[],[],[]⟩
theorem Zcqc:Known Tryz.prog Zjr Tryz.f62 Zcdk (Zg Tryz.f62):=by refine ⟨Tryz.func62,?_,?_,?_,?_,?_⟩<;>kernel_rfl
def Zbnw (a0:Int) (n1:Int) (H:Heap) (R:Value->Heap->Prop):Prop:=
 (0:Int) <= (IntKind.wrap .i64 (32 - n1))∧
 R (Value.int .u32 (Zub .u32 a0 (IntKind.wrap .u32 (IntKind.wrap .u64 ((IntKind.wrap .u64 (1*2^(min ((IntKind.wrap .i64 (32 - n1)):Int).toNat (IntKind.bits .u64)))) - 1))))) H
theorem Zdiz (a0:Int) (n1:Int) (H:Heap) (R:Value->Heap->Prop):Zbnw a0 n1 H R=Zd Tryz.prog Zcdk (Zg Tryz.f62) (env0 [(Value.int .u32 a0),(Value.int .i64 n1)]) H (RetW Tryz.prog Tryz.f62.results.toList R):=by kernel_rfl
theorem Zdek (a0:Int) (n1:Int) {H:Heap} {R:Value->Heap->Prop} (h:Zbnw a0 n1 H fun v H1=>∀H2,Shut H H1 H2->R v H2):FnW Tryz.prog Zjr ⟨[(Value.int .u32 a0),(Value.int .i64 n1)]⟩ H R:=FnW.of_code Zcqc (by kernel_rfl) (Eq.mp (Zdiz a0 n1 H _) h)
def Zcfp:Plan:=⟨[],[(0,[],[],[0,1]),(7,[5,34],[.int .u32,.int .i64],[0,1,3,4,32,33])],[],[]⟩
theorem Zcsp:Known Tryz.prog Zqx Tryz.f86 Zcfp (Zg Tryz.f86):=by refine ⟨Tryz.func86,?_,?_,?_,?_,?_⟩<;>kernel_rfl
def Zciu (l:Nat) (b1:Nat) (x13:Int) (x16:Int) (x29c:Nat) (x32l:Nat) (x29a:Option Addr) (x32h:Nat) (next0:(Unit)->Heap->Prop) (a5:Int) (x34:Int) (H5:Heap) (next7:(Int×Int×Unit)->Heap->Prop) (R:Value->Heap->Prop):Prop:=
 IfB (decide ((x34:Int)<((x32h - x32l:Nat):Int)))
 (NilP (if x29c=x32l then x29a else Option.map (fun a=>Addr.add a (x32l*1)) x29a) fun x37q=>
 InB x34 (x32h - x32l) fun x37i=>
 elemAt x37q x37i 1 fun x37p=>
 ∃x38:Int,H5.cell x37p=some (Value.int .u8 x38)∧
 (0:Int) <= (IntKind.wrap .i64 (24 - (IntKind.wrap .i64 (8*x34))))∧
 next7 ((Zbz .u32 a5 (IntKind.wrap .u32 ((IntKind.wrap .u32 x38)*2^(min ((IntKind.wrap .i64 (24 - (IntKind.wrap .i64 (8*x34)))):Int).toNat (IntKind.bits .u32))))),((IntKind.wrap .i64 (x34+1)),())) H5)
 (FnW Tryz.prog Zjr ⟨[(Value.int .u32 a5),(Value.int .i64 (IntKind.wrap .i64 x13))]⟩ H5 fun x51v H6=>
 ∃x51:Int,x51v=(Value.int .u32 x51)∧
 Zds Tryz.prog l [(Value.agg ⟨[(Value.int .u32 x51),(Value.int .i64 (IntKind.wrap .i64 x13))]⟩),(Value.bool true)] H6 fun x54v H7=>
 ∃x54:Bool,x54v=(Value.bool x54)∧
 IfB (!x54)
 (R (Value.tuple ⟨[]⟩) H7)
 (∃(x56a:Option Addr) (x56n x56c:Nat),H7.cell ⟨b1,0,none⟩=some (Value.slice x56a x56n x56c)∧
 InC (IntKind.wrap .i64 (1+x16)) x56n fun x59l=>
 Zc H7 ⟨b1,0,none⟩ (Value.slice (if x56c=x59l then x56a else Option.map (fun a=>Addr.add a (x59l*1)) x56a) (x56n - x59l) (x56c - x59l)) fun H8=>
 next0 () H8))
def Zou (l:Nat) (b1:Nat) (x13:Int) (x16:Int) (next0:(Unit)->Heap->Prop) (x25:Bool) (H3:Heap) (R:Value->Heap->Prop):Prop:=
 IfB x25
 (Zds Tryz.prog l [(Value.agg ⟨[(Value.int .u32 0),(Value.int .i64 0)]⟩),(Value.bool false)] H3 fun x28v H4=>
 ∃x28:Bool,x28v=(Value.bool x28)∧
 R (Value.tuple ⟨[]⟩) H4)
 (∃(x29a:Option Addr) (x29n x29c:Nat),H3.cell ⟨b1,0,none⟩=some (Value.slice x29a x29n x29c)∧
 InC (IntKind.wrap .i64 (1+x16)) x29c fun x32h=>
 InC 1 x32h fun x32l=>
 Zil (Int×Int×Unit) (0,(0,())) H3 fun x H next=>∀_g:Env,Zciu l b1 x13 x16 x29c x32l x29a x32h next0 x.1 x.2.1 H next R)
def Zcep (l:Nat) (b1:Nat) (H1:Heap) (next0:(Unit)->Heap->Prop) (R:Value->Heap->Prop):Prop:=
 ∃(x8a:Option Addr) (x8n x8c:Nat),H1.cell ⟨b1,0,none⟩=some (Value.slice x8a x8n x8c)∧
 IfB (decide (((x8n:Int):Int)>0))
 (∃(x11a:Option Addr) (x11n x11c:Nat),H1.cell ⟨b1,0,none⟩=some (Value.slice x11a x11n x11c)∧
 NilP x11a fun x12q=>
 InB 0 x11n fun x12i=>
 elemAt x12q x12i 1 fun x12p=>
 ∃x13:Int,H1.cell x12p=some (Value.int .u8 x13)∧
 FnW Tryz.prog Zld ⟨[(Value.int .i64 (IntKind.wrap .i64 x13))]⟩ H1 fun x16v H2=>
 ∃x16:Int,x16v=(Value.int .i64 x16)∧
 IfB (decide (((IntKind.wrap .i64 x13):Int)>32))
 (Zou l b1 x13 x16 next0 true H2 R)
 (∃(x21a:Option Addr) (x21n x21c:Nat),H2.cell ⟨b1,0,none⟩=some (Value.slice x21a x21n x21c)∧
 Zou l b1 x13 x16 next0 (decide ((x16:Int)>(IntKind.wrap .i64 ((x21n:Int) - 1)))) H2 R))
 (R (Value.tuple ⟨[]⟩) H1)
def Zbpy (l:Nat) (b1:Nat) (H:Heap) (R:Value->Heap->Prop):Prop:=
 Zil (Unit) () H fun x H next=>∀_g:Env,Zcep l b1 H next R
theorem Zdgm (l:Nat) (b1:Nat) (H:Heap) (R:Value->Heap->Prop):Zbpy l b1 H R=Zd Tryz.prog Zcfp (Zg Tryz.f86) (env0 [(Value.func (.yield l) #[] #[]),(Value.pointer (some ⟨b1,0,none⟩))]) H (RetW Tryz.prog Tryz.f86.results.toList R):=by kernel_rfl
theorem Zczi (l:Nat) (b1:Nat) {H:Heap} {R:Value->Heap->Prop} (h:Zbpy l b1 H fun v H1=>∀H2,Shut H H1 H2->R v H2):FnW Tryz.prog Zqx ⟨[(Value.func (.yield l) #[] #[]),(Value.pointer (some ⟨b1,0,none⟩))]⟩ H R:=FnW.of_code Zcsp (by kernel_rfl) (Eq.mp (Zdgm l b1 H _) h)
def Zcfu:Plan:=⟨[],[],[],[]⟩
theorem Zcrj:Known Tryz.prog Zld Tryz.f87 Zcfu (Zg Tryz.f87):=by refine ⟨Tryz.func87,?_,?_,?_,?_,?_⟩<;>kernel_rfl
def Zbsp (n0:Int) (H:Heap) (R:Value->Heap->Prop):Prop:=
 (8:Int)≠0∧
 R (Value.int .i64 (IntKind.wrap .i64 (Int.tdiv (IntKind.wrap .i64 ((IntKind.wrap .i64 (n0+8)) - 1)) 8))) H
theorem Zcqe (n0:Int) (H:Heap) (R:Value->Heap->Prop):Zbsp n0 H R=Zd Tryz.prog Zcfu (Zg Tryz.f87) (env0 [(Value.int .i64 n0)]) H (RetW Tryz.prog Tryz.f87.results.toList R):=by kernel_rfl
theorem Zdhm (n0:Int) {H:Heap} {R:Value->Heap->Prop} (h:Zbsp n0 H fun v H1=>∀H2,Shut H H1 H2->R v H2):FnW Tryz.prog Zld ⟨[(Value.int .i64 n0)]⟩ H R:=FnW.of_code Zcrj (by kernel_rfl) (Eq.mp (Zcqe n0 H _) h)
def Zckz:Plan:=⟨[],[(1,[4],[.int .i64],[0,1,2])],[],[]⟩
theorem Zdbx:Known Tryz.prog Zid Tryz.f121 Zckz (Zg Tryz.f121):=by refine ⟨Tryz.func121,?_,?_,?_,?_,?_⟩<;>kernel_rfl
def Zbub (l:Nat) (b1:Nat) (b2:Nat) (i4:Int) (H1:Heap) (next1:(Int×Unit)->Heap->Prop) (R:Value->Heap->Prop):Prop:=
 ∃(x7a:Option Addr) (x7n x7c:Nat),H1.cell ⟨b1,0,none⟩=some (Value.slice x7a x7n x7c)∧
 IfB (decide ((i4:Int)<(x7n:Int)))
 (∃x13:Int,H1.cell ⟨b2,0,none⟩=some (Value.int .i64 x13)∧
 ∃(x14a:Option Addr) (x14n x14c:Nat),H1.cell ⟨b1,0,none⟩=some (Value.slice x14a x14n x14c)∧
 InC i4 x14n fun x16l=>
 ∃(x20a:Option Addr) (x20n x20c:Nat),H1.cell ⟨b1,0,none⟩=some (Value.slice x20a x20n x20c)∧
 InC (IntKind.wrap .i64 (i4+(min x13 ((x14n - x16l:Nat):Int)))) x20c fun x28m=>
 InC (IntKind.wrap .i64 (i4+(min x13 ((x14n - x16l:Nat):Int)))) x28m fun x28h=>
 InC i4 x28h fun x28l=>
 Zds Tryz.prog l [(Value.slice (if x28m=x28l then x20a else Option.map (fun a=>Addr.add a (x28l*1)) x20a) (x28h - x28l) (x28m - x28l))] H1 fun x29v H2=>
 ∃x29:Bool,x29v=(Value.bool x29)∧
 IfB (!x29)
 (R (Value.tuple ⟨[]⟩) H2)
 (∃x11:Int,H2.cell ⟨b2,0,none⟩=some (Value.int .i64 x11)∧
 next1 ((IntKind.wrap .i64 (i4+x11)),()) H2))
 (R (Value.tuple ⟨[]⟩) H1)
def Zblp (l:Nat) (b1:Nat) (b2:Nat) (H:Heap) (R:Value->Heap->Prop):Prop:=
 Zil (Int×Unit) (0,()) H fun x H next=>∀_g:Env,Zbub l b1 b2 x.1 H next R
theorem Zdob (l:Nat) (b1:Nat) (b2:Nat) (H:Heap) (R:Value->Heap->Prop):Zblp l b1 b2 H R=Zd Tryz.prog Zckz (Zg Tryz.f121) (env0 [(Value.func (.yield l) #[] #[]),(Value.pointer (some ⟨b1,0,none⟩)),(Value.pointer (some ⟨b2,0,none⟩))]) H (RetW Tryz.prog Tryz.f121.results.toList R):=by kernel_rfl
theorem Zdbm (l:Nat) (b1:Nat) (b2:Nat) {H:Heap} {R:Value->Heap->Prop} (h:Zblp l b1 b2 H fun v H1=>∀H2,Shut H H1 H2->R v H2):FnW Tryz.prog Zid ⟨[(Value.func (.yield l) #[] #[]),(Value.pointer (some ⟨b1,0,none⟩)),(Value.pointer (some ⟨b2,0,none⟩))]⟩ H R:=FnW.of_code Zdbx (by kernel_rfl) (Eq.mp (Zdob l b1 b2 H _) h)
end Go.Proofs.YthhcfdpoiganhaaGreat
end
section
set_option maxRecDepth 100000
set_option maxHeartbeats 4000000
namespace Go.Proofs.YthhcfdpoiganhaaGreat
open Go.Sh
abbrev Zcw:List Kd:=[Kd.int .u8]
abbrev Zio:List Kd:=[Kd.int .u32]
abbrev Zdf:List Kd:=[Kd.bool,Kd.lst [Kd.int .u32]]
abbrev Zgm:List Kd:=[Kd.int .i64,Kd.lst [Kd.int .u8]]
def Zbwq:PPlan:=⟨[],[],[],[],[],[]⟩
theorem Zden:Known Tryz.prog Zuz Tryz.f36 Zbwq.plan (Zg Tryz.f36):=by refine ⟨Tryz.func36,?_,?_,?_,?_,?_⟩<;>kernel_rfl
abbrev Zbhc:List Pk:=[Pk.agg [Kd.int .u32,Kd.int .i64]]
abbrev Zblc:List Pk:=[Pk.int .i64]
def Zdee (p0:UInt32×Int) (K:Int->Prop):Prop:=
 (8:Int)≠0∧
 K (IntKind.wrap .i64 (1+(IntKind.wrap .i64 (Int.tdiv (IntKind.wrap .i64 (p0.2+7)) 8))))
noncomputable def Zclx:Tab:=⟨[],[]⟩
abbrev Zbyn (x:PkTs Zbhc) (K:PkTs Zblc->Prop):Prop:=Zdee x.1 (fun r0=>K (r0,()))
theorem Zdfz:Zbyn=fun x K=>Zbl Tryz.prog Zclx Zbwq (Zg Tryz.f36) (parS Zbhc x) (PRet Tryz.prog Tryz.f36.results.toList fun a st=>outP Zblc st a K):=by kernel_rfl
theorem Zcop:FnQ Tryz.prog Zuz Zbhc Zblc Zbyn:=(Zm Zden (tab:=Zclx) ⟨trivial,trivial⟩ rfl).of_eq Zdfz
def Zbrw:PLoop:=⟨[(13,PK.int .i64)],[0,1,12],[]⟩
def Zbtx:PPlan:=⟨[],[(4,Zbrw)],[],[],[],[]⟩
theorem Zcxz:Known Tryz.prog Zbdd Tryz.f69 Zbtx.plan (Zg Tryz.f69):=by refine ⟨Tryz.func69,?_,?_,?_,?_,?_⟩<;>kernel_rfl
abbrev Zuj:List Pk:=[Pk.lst [Kd.int .u8],Pk.lst [Kd.int .u8]]
abbrev Zpq:List Pk:=[Pk.bool]
def Zbpp (s10:List UInt8) (s21:List UInt8) (x13:Int) (next4:(Int×Unit)->Prop) (K:Bool->Prop):Prop:=
 IfB (decide ((x13:Int)<(s10.length:Int)))
 ((0:Int) <= x13∧AtN s10 x13.toNat fun x18=>
 WfT Zcw x18->
 (0:Int) <= x13∧AtN s21 x13.toNat fun x22=>
 WfT Zcw x22->
 IfB (((x18.toNat:Int):Int) !=(x22.toNat:Int))
 (K false)
 (next4 ((IntKind.wrap .i64 (x13+1)),())))
 (K true)
def Zbej (s10:List UInt8) (s21:List UInt8) (K:Bool->Prop):Prop:=
 IfB (((s10.length:Int):Int) !=(s21.length:Int))
 (K false)
 (Zl (Int×Unit) ((0:Int),()) fun y next=>
 WfY Zbrw.kinds y->
 Zbpp s10 s21 y.1 next K)
noncomputable def Zbyh:Tab:=⟨[],[]⟩
abbrev Zbju (x:PkTs Zuj) (K:PkTs Zpq->Prop):Prop:=Zbej x.1 x.2.1 (fun r0=>K (r0,()))
theorem Zdln:Zbju=fun x K=>Zbl Tryz.prog Zbyh Zbtx (Zg Tryz.f69) (parS Zuj x) (PRet Tryz.prog Tryz.f69.results.toList fun a st=>outP Zpq st a K):=by kernel_rfl
theorem Zcxe:FnQ Tryz.prog Zbdd Zuj Zpq Zbju:=(Zm Zcxz (tab:=Zbyh) ⟨trivial,trivial⟩ rfl).of_eq Zdln
noncomputable def Zcjo:Ct:=ctRd Zuj Zpq Zbju
theorem Zcwt:Zk Tryz.prog Zbdd Zcjo:=Zbk Zcxe
def Zbzn:PPlan:=⟨[],[],[],[],[],[]⟩
theorem Zcqp:Known Tryz.prog Zqv Tryz.f68 Zbzn.plan (Zg Tryz.f68):=by refine ⟨Tryz.func68,?_,?_,?_,?_,?_⟩<;>kernel_rfl
abbrev Zsy:List Pk:=[Pk.agg [Kd.int .i64,Kd.lst [Kd.int .u8]],Pk.agg [Kd.int .i64,Kd.lst [Kd.int .u8]]]
abbrev Zqw:List Pk:=[Pk.bool]
def Zbau (x0:Int×List UInt8) (y1:Int×List UInt8) (K:Bool->Prop):Prop:=
 IfB ((x0.1:Int)==y1.1)
 ((WfPs Zuj (x0.2,y1.2,())->
 Zbej x0.2 y1.2 (fun x15=>
 WfPs Zpq (x15,())->
 K x15)))
 (K false)
noncomputable def Zcdp:Tab:=⟨[(Zbdd,Zcjo)],[]⟩
abbrev Zbms (x:PkTs Zsy) (K:PkTs Zqw->Prop):Prop:=Zbau x.1 x.2.1 (fun r0=>K (r0,()))
theorem Zcue:Zbms=fun x K=>Zbl Tryz.prog Zcdp Zbzn (Zg Tryz.f68) (parS Zsy x) (PRet Tryz.prog Tryz.f68.results.toList fun a st=>outP Zqw st a K):=by kernel_rfl
theorem Zdmy:FnQ Tryz.prog Zqv Zsy Zqw Zbms:=(Zm Zcqp (tab:=Zcdp) ⟨⟨Zcwt,trivial⟩,trivial⟩ rfl).of_eq Zcue
noncomputable def Zcid:Ct:=ctRd Zsy Zqw Zbms
theorem Zdbj:Zk Tryz.prog Zqv Zcid:=Zbk Zdmy
def Zcgz:PPlan:=⟨[],[],[],[],[],[]⟩
theorem Zdhr:Known Tryz.prog Zbex Tryz.f70 Zcgz.plan (Zg Tryz.f70):=by refine ⟨Tryz.func70,?_,?_,?_,?_,?_⟩<;>kernel_rfl
abbrev Zjx:List Pk:=[Pk.bool,Pk.bool,Pk.bool]
abbrev Zkn:List Pk:=[Pk.bool]
def Zlr (is0:Bool) (was1:Bool) (same2:Bool) (K:Bool->Prop):Prop:=
 IfB (is0==was1)
 (IfB (!is0)
 (K true)
 (K same2))
 (K false)
noncomputable def Zcbi:Tab:=⟨[],[]⟩
abbrev Zbqk (x:PkTs Zjx) (K:PkTs Zkn->Prop):Prop:=Zlr x.1 x.2.1 x.2.2.1 (fun r0=>K (r0,()))
theorem Zdlm:Zbqk=fun x K=>Zbl Tryz.prog Zcbi Zcgz (Zg Tryz.f70) (parS Zjx x) (PRet Tryz.prog Tryz.f70.results.toList fun a st=>outP Zkn st a K):=by kernel_rfl
theorem Zcmb:FnQ Tryz.prog Zbex Zjx Zkn Zbqk:=(Zm Zdhr (tab:=Zcbi) ⟨trivial,trivial⟩ rfl).of_eq Zdlm
noncomputable def Zbwd:Ct:=ctRd Zjx Zkn Zbqk
theorem Zdjj:Zk Tryz.prog Zbex Zbwd:=Zbk Zcmb
def Zckl:PLoop:=⟨[(13,PK.int .i64)],[0,1,12],[]⟩
def Zcie:PPlan:=⟨[],[(4,Zckl)],[],[],[],[]⟩
theorem Zdhl:Known Tryz.prog Zto Tryz.f72 Zcie.plan (Zg Tryz.f72):=by refine ⟨Tryz.func72,?_,?_,?_,?_,?_⟩<;>kernel_rfl
abbrev Zni:List Pk:=[Pk.lst [Kd.int .u32],Pk.lst [Kd.int .u32]]
abbrev Zoj:List Pk:=[Pk.bool]
def Zbiw (s10:List UInt32) (s21:List UInt32) (x13:Int) (next4:(Int×Unit)->Prop) (K:Bool->Prop):Prop:=
 IfB (decide ((x13:Int)<(s10.length:Int)))
 ((0:Int) <= x13∧AtN s10 x13.toNat fun x18=>
 WfT Zio x18->
 (0:Int) <= x13∧AtN s21 x13.toNat fun x22=>
 WfT Zio x22->
 IfB (((x18.toNat:Int):Int) !=(x22.toNat:Int))
 (K false)
 (next4 ((IntKind.wrap .i64 (x13+1)),())))
 (K true)
def Zts (s10:List UInt32) (s21:List UInt32) (K:Bool->Prop):Prop:=
 IfB (((s10.length:Int):Int) !=(s21.length:Int))
 (K false)
 (Zl (Int×Unit) ((0:Int),()) fun y next=>
 WfY Zckl.kinds y->
 Zbiw s10 s21 y.1 next K)
noncomputable def Zcgv:Tab:=⟨[],[]⟩
abbrev Zbmm (x:PkTs Zni) (K:PkTs Zoj->Prop):Prop:=Zts x.1 x.2.1 (fun r0=>K (r0,()))
theorem Zcmf:Zbmm=fun x K=>Zbl Tryz.prog Zcgv Zcie (Zg Tryz.f72) (parS Zni x) (PRet Tryz.prog Tryz.f72.results.toList fun a st=>outP Zoj st a K):=by kernel_rfl
theorem Zdnq:FnQ Tryz.prog Zto Zni Zoj Zbmm:=(Zm Zdhl (tab:=Zcgv) ⟨trivial,trivial⟩ rfl).of_eq Zcmf
noncomputable def Zbne:Ct:=ctRd Zni Zoj Zbmm
theorem Zcjr:Zk Tryz.prog Zto Zbne:=Zbk Zdnq
def Zclm:PPlan:=⟨[],[],[],[],[],[]⟩
theorem Zdfu:Known Tryz.prog Zqa Tryz.f97 Zclm.plan (Zg Tryz.f97):=by refine ⟨Tryz.func97,?_,?_,?_,?_,?_⟩<;>kernel_rfl
abbrev Zvg:List Pk:=[Pk.agg [Kd.bool,Kd.lst [Kd.int .u32]],Pk.agg [Kd.bool,Kd.lst [Kd.int .u32]]]
abbrev Zrr:List Pk:=[Pk.bool]
def Zyc (x0:Bool×List UInt32) (y1:Bool×List UInt32) (K:Bool->Prop):Prop:=
 IfB (x0.1==y1.1)
 ((WfPs Zni (x0.2,y1.2,())->
 Zts x0.2 y1.2 (fun x15=>
 WfPs Zoj (x15,())->
 K x15)))
 (K false)
noncomputable def Zcap:Tab:=⟨[(Zto,Zbne)],[]⟩
abbrev Zblj (x:PkTs Zvg) (K:PkTs Zrr->Prop):Prop:=Zyc x.1 x.2.1 (fun r0=>K (r0,()))
theorem Zdne:Zblj=fun x K=>Zbl Tryz.prog Zcap Zclm (Zg Tryz.f97) (parS Zvg x) (PRet Tryz.prog Tryz.f97.results.toList fun a st=>outP Zrr st a K):=by kernel_rfl
theorem Zdlt:FnQ Tryz.prog Zqa Zvg Zrr Zblj:=(Zm Zdfu (tab:=Zcap) ⟨⟨Zcjr,trivial⟩,trivial⟩ rfl).of_eq Zdne
noncomputable def Zccw:Ct:=ctRd Zvg Zrr Zblj
theorem Zday:Zk Tryz.prog Zqa Zccw:=Zbk Zdlt
def Zcly:PLoop:=⟨[(17,PK.int .i64)],[1,2,15,16],[]⟩
def Zbtq:PPlan:=⟨[],[(4,Zcly)],[],[],[],[]⟩
theorem Zcza:Known Tryz.prog Zbeq Tryz.f96 Zbtq.plan (Zg Tryz.f96):=by refine ⟨Tryz.func96,?_,?_,?_,?_,?_⟩<;>kernel_rfl
abbrev Zsx:List Pk:=[Pk.lst [Kd.bool,Kd.lst [Kd.int .u32]],Pk.lst [Kd.bool,Kd.lst [Kd.int .u32]],Pk.fn 97]
abbrev Zqm:List Pk:=[Pk.bool]
def Zbkh (s21:List (Bool×List UInt32)) (s10:List (Bool×List UInt32)) (x17:Int) (next4:(Int×Unit)->Prop) (K:Bool->Prop):Prop:=
 IfB (decide ((x17:Int)<(s10.length:Int)))
 ((0:Int) <= x17∧AtN s10 x17.toNat fun x20=>
 WfT Zdf x20->
 (0:Int) <= x17∧AtN s21 x17.toNat fun x24=>
 WfT Zdf x24->
 (WfPs Zvg (x20,x24,())->
 Zyc x20 x24 (fun x29=>
 WfPs Zrr (x29,())->
 IfB (!x29)
 (K false)
 (next4 ((IntKind.wrap .i64 (x17+1)),())))))
 (K true)
def Zbjf (s10:List (Bool×List UInt32)) (s21:List (Bool×List UInt32)) (K:Bool->Prop):Prop:=
 IfB (((s10.length:Int):Int) !=(s21.length:Int))
 (K false)
 (Zl (Int×Unit) ((0:Int),()) fun y next=>
 WfY Zcly.kinds y->
 Zbkh s21 s10 y.1 next K)
noncomputable def Zbyj:Tab:=⟨[(Zqa,Zccw)],[]⟩
abbrev Zbjg (x:PkTs Zsx) (K:PkTs Zqm->Prop):Prop:=Zbjf x.1 x.2.1 (fun r0=>K (r0,()))
theorem Zdpc:Zbjg=fun x K=>Zbl Tryz.prog Zbyj Zbtq (Zg Tryz.f96) (parS Zsx x) (PRet Tryz.prog Tryz.f96.results.toList fun a st=>outP Zqm st a K):=by kernel_rfl
theorem Zcmg:FnQ Tryz.prog Zbeq Zsx Zqm Zbjg:=(Zm Zcza (tab:=Zbyj) ⟨⟨Zday,trivial⟩,trivial⟩ rfl).of_eq Zdpc
noncomputable def Zbvu:Ct:=ctRd Zsx Zqm Zbjg
theorem Zdoe:Zk Tryz.prog Zbeq Zbvu:=Zbk Zcmg
def Zbyy:PPlan:=⟨[],[],[],[],[],[]⟩
theorem Zcvr:Known Tryz.prog Zbcx Tryz.f71 Zbyy.plan (Zg Tryz.f71):=by refine ⟨Tryz.func71,?_,?_,?_,?_,?_⟩<;>kernel_rfl
abbrev Zsa:List Pk:=[Pk.lst [Kd.bool,Kd.lst [Kd.int .u32]],Pk.lst [Kd.bool,Kd.lst [Kd.int .u32]]]
abbrev Zpk:List Pk:=[Pk.bool]
def Zbbe (a0:List (Bool×List UInt32)) (b1:List (Bool×List UInt32)) (K:Bool->Prop):Prop:=
 (WfPs Zsx (a0,b1,(),())->
 Zbjf a0 b1 (fun x7=>
 WfPs Zqm (x7,())->
 K x7))
noncomputable def Zcck:Tab:=⟨[(Zbeq,Zis 2 [(Zqa,Zbvu)])],[]⟩
abbrev Zblk (x:PkTs Zsa) (K:PkTs Zpk->Prop):Prop:=Zbbe x.1 x.2.1 (fun r0=>K (r0,()))
theorem Zctd:Zblk=fun x K=>Zbl Tryz.prog Zcck Zbyy (Zg Tryz.f71) (parS Zsa x) (PRet Tryz.prog Tryz.f71.results.toList fun a st=>outP Zpk st a K):=by kernel_rfl
theorem Zdni:FnQ Tryz.prog Zbcx Zsa Zpk Zblk:=(Zm Zcvr (tab:=Zcck) ⟨⟨Zlg ⟨Zdoe,trivial⟩,trivial⟩,trivial⟩ rfl).of_eq Zctd
noncomputable def Zcfi:Ct:=ctRd Zsa Zpk Zblk
theorem Zcrz:Zk Tryz.prog Zbcx Zcfi:=Zbk Zdni
def Zcau:PLoop:=⟨[(17,PK.int .i64)],[1,2,15,16],[]⟩
def Zbtt:PPlan:=⟨[],[(4,Zcau)],[],[],[],[]⟩
theorem Zdbk:Known Tryz.prog Zxs Tryz.f73 Zbtt.plan (Zg Tryz.f73):=by refine ⟨Tryz.func73,?_,?_,?_,?_,?_⟩<;>kernel_rfl
abbrev Zpx:List Pk:=[Pk.lst [Kd.int .i64,Kd.lst [Kd.int .u8]],Pk.lst [Kd.int .i64,Kd.lst [Kd.int .u8]],Pk.fn 68]
abbrev Zri:List Pk:=[Pk.bool]
def Zbkt (s21:List (Int×List UInt8)) (s10:List (Int×List UInt8)) (x17:Int) (next4:(Int×Unit)->Prop) (K:Bool->Prop):Prop:=
 IfB (decide ((x17:Int)<(s10.length:Int)))
 ((0:Int) <= x17∧AtN s10 x17.toNat fun x20=>
 WfT Zgm x20->
 (0:Int) <= x17∧AtN s21 x17.toNat fun x24=>
 WfT Zgm x24->
 (WfPs Zsy (x20,x24,())->
 Zbau x20 x24 (fun x29=>
 WfPs Zqw (x29,())->
 IfB (!x29)
 (K false)
 (next4 ((IntKind.wrap .i64 (x17+1)),())))))
 (K true)
def Zyu (s10:List (Int×List UInt8)) (s21:List (Int×List UInt8)) (K:Bool->Prop):Prop:=
 IfB (((s10.length:Int):Int) !=(s21.length:Int))
 (K false)
 (Zl (Int×Unit) ((0:Int),()) fun y next=>
 WfY Zcau.kinds y->
 Zbkt s21 s10 y.1 next K)
noncomputable def Zbxt:Tab:=⟨[(Zqv,Zcid)],[]⟩
abbrev Zbmq (x:PkTs Zpx) (K:PkTs Zri->Prop):Prop:=Zyu x.1 x.2.1 (fun r0=>K (r0,()))
theorem Zcsb:Zbmq=fun x K=>Zbl Tryz.prog Zbxt Zbtt (Zg Tryz.f73) (parS Zpx x) (PRet Tryz.prog Tryz.f73.results.toList fun a st=>outP Zri st a K):=by kernel_rfl
theorem Zdlh:FnQ Tryz.prog Zxs Zpx Zri Zbmq:=(Zm Zdbk (tab:=Zbxt) ⟨⟨Zdbj,trivial⟩,trivial⟩ rfl).of_eq Zcsb
noncomputable def Zckx:Ct:=ctRd Zpx Zri Zbmq
theorem Zdbz:Zk Tryz.prog Zxs Zckx:=Zbk Zdlh
def Zbru:PPlan:=⟨[],[],[],[],[],[]⟩
theorem Zdfb:Known Tryz.prog Zbep Tryz.f39 Zbru.plan (Zg Tryz.f39):=by refine ⟨Tryz.func39,?_,?_,?_,?_,?_⟩<;>kernel_rfl
abbrev Zpu:List Pk:=[Pk.agg [Kd.int .i64,Kd.lst [Kd.bool,Kd.lst [Kd.int .u32]],Kd.int .u32,Kd.bool,Kd.int .u32,Kd.bool,Kd.int .u32,Kd.bool,Kd.bool,Kd.int .u32,Kd.int .u32,Kd.lst [Kd.int .u32],Kd.lst [Kd.int .i64,Kd.lst [Kd.int .u8]]],Pk.agg [Kd.int .i64,Kd.lst [Kd.bool,Kd.lst [Kd.int .u32]],Kd.int .u32,Kd.bool,Kd.int .u32,Kd.bool,Kd.int .u32,Kd.bool,Kd.bool,Kd.int .u32,Kd.int .u32,Kd.lst [Kd.int .u32],Kd.lst [Kd.int .i64,Kd.lst [Kd.int .u8]]]]
abbrev Zru:List Pk:=[Pk.bool]
def Zbaf (a0:Int×List (Bool×List UInt32)×UInt32×Bool×UInt32×Bool×UInt32×Bool×Bool×UInt32×UInt32×List UInt32×List (Int×List UInt8)) (b1:Int×List (Bool×List UInt32)×UInt32×Bool×UInt32×Bool×UInt32×Bool×Bool×UInt32×UInt32×List UInt32×List (Int×List UInt8)) (j26_2:Bool) (K:Bool->Prop):Prop:=
 IfB j26_2
 (K false)
 ((WfPs Zsa (a0.2.1,b1.2.1,())->
 Zbbe a0.2.1 b1.2.1 (fun x74=>
 WfPs Zpk (x74,())->
 IfB x74
 ((WfPs Zni (a0.2.2.2.2.2.2.2.2.2.2.2.1,b1.2.2.2.2.2.2.2.2.2.2.2.1,())->
 Zts a0.2.2.2.2.2.2.2.2.2.2.2.1 b1.2.2.2.2.2.2.2.2.2.2.2.1 (fun x80=>
 WfPs Zoj (x80,())->
 IfB x80
 ((WfPs Zpx (a0.2.2.2.2.2.2.2.2.2.2.2.2,b1.2.2.2.2.2.2.2.2.2.2.2.2,(),())->
 Zyu a0.2.2.2.2.2.2.2.2.2.2.2.2 b1.2.2.2.2.2.2.2.2.2.2.2.2 (fun x88=>
 WfPs Zri (x88,())->
 K x88)))
 (K false))))
 (K false))))
def Zbgc (a0:Int×List (Bool×List UInt32)×UInt32×Bool×UInt32×Bool×UInt32×Bool×Bool×UInt32×UInt32×List UInt32×List (Int×List UInt8)) (b1:Int×List (Bool×List UInt32)×UInt32×Bool×UInt32×Bool×UInt32×Bool×Bool×UInt32×UInt32×List UInt32×List (Int×List UInt8)) (j26_1:Bool) (K:Bool->Prop):Prop:=
 IfB j26_1
 (K false)
 (IfB (((a0.2.2.2.2.2.2.2.2.2.1.toNat:Int):Int)==(b1.2.2.2.2.2.2.2.2.2.1.toNat:Int))
 ((WfPs Zjx (a0.2.2.2.2.2.2.2.2.1,b1.2.2.2.2.2.2.2.2.1,(((a0.2.2.2.2.2.2.2.2.2.2.1.toNat:Int):Int)==(b1.2.2.2.2.2.2.2.2.2.2.1.toNat:Int)),())->
 Zlr a0.2.2.2.2.2.2.2.2.1 b1.2.2.2.2.2.2.2.2.1 (((a0.2.2.2.2.2.2.2.2.2.2.1.toNat:Int):Int)==(b1.2.2.2.2.2.2.2.2.2.2.1.toNat:Int)) (fun x68=>
 WfPs Zkn (x68,())->
 Zbaf a0 b1 (!x68) K)))
 ((WfPs Zjx (a0.2.2.2.2.2.2.2.2.1,b1.2.2.2.2.2.2.2.2.1,false,())->
 Zlr a0.2.2.2.2.2.2.2.2.1 b1.2.2.2.2.2.2.2.2.1 false (fun x68_1=>
 WfPs Zkn (x68_1,())->
 Zbaf a0 b1 (!x68_1) K))))
def Zrc (a0:Int×List (Bool×List UInt32)×UInt32×Bool×UInt32×Bool×UInt32×Bool×Bool×UInt32×UInt32×List UInt32×List (Int×List UInt8)) (b1:Int×List (Bool×List UInt32)×UInt32×Bool×UInt32×Bool×UInt32×Bool×Bool×UInt32×UInt32×List UInt32×List (Int×List UInt8)) (j26:Bool) (K:Bool->Prop):Prop:=
 IfB j26
 (K false)
 ((WfPs Zjx (a0.2.2.2.1,b1.2.2.2.1,(((a0.2.2.2.2.1.toNat:Int):Int)==(b1.2.2.2.2.1.toNat:Int)),())->
 Zlr a0.2.2.2.1 b1.2.2.2.1 (((a0.2.2.2.2.1.toNat:Int):Int)==(b1.2.2.2.2.1.toNat:Int)) (fun x36=>
 WfPs Zkn (x36,())->
 IfB (!x36)
 (Zbgc a0 b1 true K)
 ((WfPs Zjx (a0.2.2.2.2.2.1,b1.2.2.2.2.2.1,(((a0.2.2.2.2.2.2.1.toNat:Int):Int)==(b1.2.2.2.2.2.2.1.toNat:Int)),())->
 Zlr a0.2.2.2.2.2.1 b1.2.2.2.2.2.1 (((a0.2.2.2.2.2.2.1.toNat:Int):Int)==(b1.2.2.2.2.2.2.1.toNat:Int)) (fun x48=>
 WfPs Zkn (x48,())->
 Zbgc a0 b1 (!x48) K))))))
def Zwf (a0:Int×List (Bool×List UInt32)×UInt32×Bool×UInt32×Bool×UInt32×Bool×Bool×UInt32×UInt32×List UInt32×List (Int×List UInt8)) (b1:Int×List (Bool×List UInt32)×UInt32×Bool×UInt32×Bool×UInt32×Bool×Bool×UInt32×UInt32×List UInt32×List (Int×List UInt8)) (K:Bool->Prop):Prop:=
 IfB ((a0.1:Int) !=b1.1)
 (Zrc a0 b1 true K)
 (IfB (((a0.2.2.1.toNat:Int):Int) !=(b1.2.2.1.toNat:Int))
 (Zrc a0 b1 true K)
 (Zrc a0 b1 (!(a0.2.2.2.2.2.2.2.1==b1.2.2.2.2.2.2.2.1)) K))
noncomputable def Zcex:Tab:=⟨[(Zbex,Zbwd),(Zbcx,Zcfi),(Zto,Zbne),(Zxs,Zis 2 [(Zqv,Zckx)])],[]⟩
abbrev Zbox (x:PkTs Zpu) (K:PkTs Zru->Prop):Prop:=Zwf x.1 x.2.1 (fun r0=>K (r0,()))
theorem Zdlr:Zbox=fun x K=>Zbl Tryz.prog Zcex Zbru (Zg Tryz.f39) (parS Zpu x) (PRet Tryz.prog Tryz.f39.results.toList fun a st=>outP Zru st a K):=by kernel_rfl
theorem Zdcu:FnQ Tryz.prog Zbep Zpu Zru Zbox:=(Zm Zdfb (tab:=Zcex) ⟨⟨Zdjj,Zcrz,Zcjr,Zlg ⟨Zdbz,trivial⟩,trivial⟩,trivial⟩ rfl).of_eq Zdlr
noncomputable def Zcfq:Ct:=ctRd Zpu Zru Zbox
theorem Zcpr:Zk Tryz.prog Zbep Zcfq:=Zbk Zdcu
def Zbtm:PPlan:=⟨[],[],[],[],[],[]⟩
theorem Zdgy:Known Tryz.prog Zgx Tryz.f20 Zbtm.plan (Zg Tryz.f20):=by refine ⟨Tryz.func20,?_,?_,?_,?_,?_⟩<;>kernel_rfl
abbrev Zxe:List Pk:=[Pk.agg [Kd.int .u32,Kd.int .i64,Kd.int .i64,Kd.lst [Kd.bool,Kd.lst [Kd.int .u32]],Kd.int .u32,Kd.bool,Kd.int .u32,Kd.bool,Kd.int .u32,Kd.bool,Kd.bool,Kd.int .u32,Kd.int .u32,Kd.lst [Kd.int .u32],Kd.lst [Kd.int .i64,Kd.lst [Kd.int .u8]],Kd.bool],Pk.agg [Kd.int .u32,Kd.int .i64,Kd.int .i64,Kd.lst [Kd.bool,Kd.lst [Kd.int .u32]],Kd.int .u32,Kd.bool,Kd.int .u32,Kd.bool,Kd.int .u32,Kd.bool,Kd.bool,Kd.int .u32,Kd.int .u32,Kd.lst [Kd.int .u32],Kd.lst [Kd.int .i64,Kd.lst [Kd.int .u8]],Kd.bool]]
abbrev Zbqa:List Pk:=[Pk.bool]
def Zbjs (a0:UInt32×Int×Int×List (Bool×List UInt32)×UInt32×Bool×UInt32×Bool×UInt32×Bool×Bool×UInt32×UInt32×List UInt32×List (Int×List UInt8)×Bool) (b1:UInt32×Int×Int×List (Bool×List UInt32)×UInt32×Bool×UInt32×Bool×UInt32×Bool×Bool×UInt32×UInt32×List UInt32×List (Int×List UInt8)×Bool) (K:Bool->Prop):Prop:=
 (WfPs Zpu (((a0.2.2.1,a0.2.2.2.1,(ofI .u32 (a0.2.2.2.2.1.toNat:Int)),a0.2.2.2.2.2.1,(ofI .u32 (a0.2.2.2.2.2.2.1.toNat:Int)),a0.2.2.2.2.2.2.2.1,(ofI .u32 (a0.2.2.2.2.2.2.2.2.1.toNat:Int)),a0.2.2.2.2.2.2.2.2.2.1,a0.2.2.2.2.2.2.2.2.2.2.1,(ofI .u32 (a0.2.2.2.2.2.2.2.2.2.2.2.1.toNat:Int)),(ofI .u32 (a0.2.2.2.2.2.2.2.2.2.2.2.2.1.toNat:Int)),a0.2.2.2.2.2.2.2.2.2.2.2.2.2.1,a0.2.2.2.2.2.2.2.2.2.2.2.2.2.2.1):Int×List (Bool×List UInt32)×UInt32×Bool×UInt32×Bool×UInt32×Bool×Bool×UInt32×UInt32×List UInt32×List (Int×List UInt8)),((b1.2.2.1,b1.2.2.2.1,(ofI .u32 (b1.2.2.2.2.1.toNat:Int)),b1.2.2.2.2.2.1,(ofI .u32 (b1.2.2.2.2.2.2.1.toNat:Int)),b1.2.2.2.2.2.2.2.1,(ofI .u32 (b1.2.2.2.2.2.2.2.2.1.toNat:Int)),b1.2.2.2.2.2.2.2.2.2.1,b1.2.2.2.2.2.2.2.2.2.2.1,(ofI .u32 (b1.2.2.2.2.2.2.2.2.2.2.2.1.toNat:Int)),(ofI .u32 (b1.2.2.2.2.2.2.2.2.2.2.2.2.1.toNat:Int)),b1.2.2.2.2.2.2.2.2.2.2.2.2.2.1,b1.2.2.2.2.2.2.2.2.2.2.2.2.2.2.1):Int×List (Bool×List UInt32)×UInt32×Bool×UInt32×Bool×UInt32×Bool×Bool×UInt32×UInt32×List UInt32×List (Int×List UInt8)),())->
 Zwf ((a0.2.2.1,a0.2.2.2.1,(ofI .u32 (a0.2.2.2.2.1.toNat:Int)),a0.2.2.2.2.2.1,(ofI .u32 (a0.2.2.2.2.2.2.1.toNat:Int)),a0.2.2.2.2.2.2.2.1,(ofI .u32 (a0.2.2.2.2.2.2.2.2.1.toNat:Int)),a0.2.2.2.2.2.2.2.2.2.1,a0.2.2.2.2.2.2.2.2.2.2.1,(ofI .u32 (a0.2.2.2.2.2.2.2.2.2.2.2.1.toNat:Int)),(ofI .u32 (a0.2.2.2.2.2.2.2.2.2.2.2.2.1.toNat:Int)),a0.2.2.2.2.2.2.2.2.2.2.2.2.2.1,a0.2.2.2.2.2.2.2.2.2.2.2.2.2.2.1):Int×List (Bool×List UInt32)×UInt32×Bool×UInt32×Bool×UInt32×Bool×Bool×UInt32×UInt32×List UInt32×List (Int×List UInt8)) ((b1.2.2.1,b1.2.2.2.1,(ofI .u32 (b1.2.2.2.2.1.toNat:Int)),b1.2.2.2.2.2.1,(ofI .u32 (b1.2.2.2.2.2.2.1.toNat:Int)),b1.2.2.2.2.2.2.2.1,(ofI .u32 (b1.2.2.2.2.2.2.2.2.1.toNat:Int)),b1.2.2.2.2.2.2.2.2.2.1,b1.2.2.2.2.2.2.2.2.2.2.1,(ofI .u32 (b1.2.2.2.2.2.2.2.2.2.2.2.1.toNat:Int)),(ofI .u32 (b1.2.2.2.2.2.2.2.2.2.2.2.2.1.toNat:Int)),b1.2.2.2.2.2.2.2.2.2.2.2.2.2.1,b1.2.2.2.2.2.2.2.2.2.2.2.2.2.2.1):Int×List (Bool×List UInt32)×UInt32×Bool×UInt32×Bool×UInt32×Bool×Bool×UInt32×UInt32×List UInt32×List (Int×List UInt8)) (fun x9=>
 WfPs Zru (x9,())->
 K x9))
noncomputable def Zcde:Tab:=⟨[(Zbep,Zcfq)],[]⟩
abbrev Zcbp (x:PkTs Zxe) (K:PkTs Zbqa->Prop):Prop:=Zbjs x.1 x.2.1 (fun r0=>K (r0,()))
theorem Zcnw:Zcbp=fun x K=>Zbl Tryz.prog Zcde Zbtm (Zg Tryz.f20) (parS Zxe x) (PRet Tryz.prog Tryz.f20.results.toList fun a st=>outP Zbqa st a K):=by kernel_rfl
theorem Zcsn:FnQ Tryz.prog Zgx Zxe Zbqa Zcbp:=(Zm Zdgy (tab:=Zcde) ⟨⟨Zcpr,trivial⟩,trivial⟩ rfl).of_eq Zcnw
end Go.Proofs.YthhcfdpoiganhaaGreat
end
section
set_option maxRecDepth 100000
namespace Go.Proofs.YthhcfdpoiganhaaGreat
open Go.Sh
theorem Zjp (a:Nat) (h:a <= 9223372036854775807):IntKind.wrap .i64 (a:Int)=(a:Int):=Zh (by omega) (by omega)
theorem Zdce (n a:Nat) (ha:a<2^n) (k:Nat) (hk:k <= n):a&&& (2^n - 1 - (2^k - 1))=a - a%2^k:=by
 have hpk:2^k <= 2^n:=YW (by decide) hk
 have h0:0<2^k:=YPa k;apply Nat.eq_of_testBit_eq;intro i;rw [Yjb,show 2^n - 1 - (2^k - 1)=2^n - ((2^k - 1)+1) by omega,Nat.testBit_two_pow_sub_succ (by omega),Nat.testBit_two_pow_sub_one]
 have e:a - a%2^k=2^k*(a/2^k):=by have:=Ykb a (2^k);omega
 rw [e,Nat.testBit_two_pow_mul];by_cases hi:i<k;simp [hi];intro _;omega
 ·rw [Nat.testBit_div_two_pow,show i - k+k=i by omega]
  by_cases hn:i<n;simp [hi,hn];omega
  ·have:a.testBit i=false:=Nat.testBit_lt_two_pow (YQa ha (YW (by decide) (by omega)))
   simp [this]
theorem Zcbh (a:Nat) (ha:a<4294967296) (k:Nat) (hk:k <= 32):Zub .u32 (a:Int) ((2^k - 1:Nat):Int)=((a - a%2^k:Nat):Int):=by
 have hp:2^k <= 2^32:=YW (by decide) hk
 have h0:0<2^k:=YPa k;have e32:(2:Nat)^32=4294967296:=rfl;unfold Zub;have hb:IntKind.bits .u32=32:=rfl;rw [hb,Zoz 32 a (by omega),Zoz 32 (2^k - 1) (by omega),BitVec.toNat_and,BitVec.toNat_not,BitVec.toNat_ofNat,BitVec.toNat_ofNat,YV (by omega),YV (by omega)]
 rw [Zdce 32 a (by omega) k hk,wu32 (by omega)]
def Zek (n:Nat):Nat:=2^(32 - n)
theorem Zot (a:Nat) (h:a<18446744073709551616):IntKind.wrap .u64 (a:Int)=(a:Int):=by rw [Zcxq];omega
abbrev PfB:=(UInt32×Int)×Bool×Unit
def oct8 (n:Nat):Nat:=(n+7)/8
def Zhn (a:Int) (j:Nat) (x:UInt8):Int:=Zbz .u32 a (IntKind.wrap .u32 (IntKind.wrap .u32 (x.toNat:Int)*2^(min (24 - 8*j) 32)))
def pxF:Nat->Int->List UInt8->Int
 | _,a,[]=>a
 | j,a,x::r=>pxF (j+1) (Zhn a j x) r
theorem Zcli (x:UInt8): ∀(l:List UInt8) (j:Nat) (a:Int),pxF j a (l++[x])=Zhn (pxF j a l) (j+l.length) x
 | [],_,_=>rfl
 | y::l,j,a=>by show pxF (j+1) _ (l++[x])=_;rw [Zcli x l (j+1)];show Zhn (pxF (j+1) (Zhn a j y) l) (j+1+l.length) x=Zhn (pxF (j+1) (Zhn a j y) l) (j+(l.length+1)) x;rw [show j+1+l.length=j+(l.length+1) by omega]
theorem Zdkn (a:Int) (j:Nat) (x:UInt8):0 <= Zhn a j x∧Zhn a j x<4294967296:=by unfold Zhn Zbz;rw [Zbxy];omega
theorem Zbvk: ∀(l:List UInt8) (j:Nat) (a:Int),0 <= a∧a<4294967296->0 <= pxF j a l∧pxF j a l<4294967296
 | [],_,_,h=>h
 | x::r,j,a,_=>Zbvk r (j+1) _ (Zdkn a j x)
def pxN (l:List UInt8):Nat:=(pxF 0 0 l).toNat
theorem Zcvn (l:List UInt8):pxF 0 0 l=(pxN l:Int)∧pxN l<4294967296:=by
 have:=Zbvk l 0 0 ⟨by decide,by decide⟩
 unfold pxN;omega
def Zvz (n:Nat) (l:List UInt8):UInt32×Int:=(UInt32.ofNat (pxN l - pxN l%Zek n),(n:Int))
def Zho:Nat->List UInt8->List PfB
 | 0,_=>[]
 | _+1,[]=>[]
 | f+1,x::r=>if x.toNat <= 32∧oct8 x.toNat <= r.length then (Zvz x.toNat (r.take (oct8 x.toNat)),true,())::Zho f (r.drop (oct8 x.toNat)) else [((0,0),false,())]
theorem Zcfe: ∀(k k':Nat) (s:List UInt8),s.length <= k->s.length <= k'->Zho k s=Zho k' s
 | 0,0,s,_,_=>rfl
 | 0,k'+1,[],_,_=>rfl
 | 0,_+1,_::_,h,_=>by simp at h
 | k+1,0,[],_,_=>rfl
 | _+1,0,_::_,_,h=>by simp at h
 | k+1,k'+1,[],_,_=>rfl
 | k+1,k'+1,x::r,h,h'=>by
  simp only [Zho];have e:(r.drop (oct8 x.toNat)).length <= r.length:=by simp only [Yq];omega
  simp only [List.length_cons] at h h';rw [Zcfe k k' _ (by omega) (by omega)]
def Zbp (s:List UInt8):List PfB:=Zho s.length s
theorem Zbtw {x:UInt8} {r:List UInt8} (h: ¬(x.toNat <= 32∧oct8 x.toNat <= r.length)):Zbp (x::r)= [((0,0),false,())]:=by unfold Zbp;simp only [List.length_cons,Zho];rw [if_neg h]
theorem Zcgl {x:UInt8} {r:List UInt8} (h:x.toNat <= 32∧oct8 x.toNat <= r.length):Zbp (x::r)=(Zvz x.toNat (r.take (oct8 x.toNat)),true,())::Zbp (r.drop (oct8 x.toNat)):=by unfold Zbp;simp only [List.length_cons,Zho];rw [if_pos h,Zcfe r.length _ _ (by simp only [Yq];omega) (Yh _)]
def Zhz:It:=⟨[.agg [.int .u32,.int .i64],.bool],[.lst [.int .u8]],fun c=>Zbp c.1,fun c=>c.1.length <= 4611686018427387904⟩
theorem Zdhn {Z:Nat->Prop} {H:Heap} {s:List UInt8} {a:Option Addr} {n c:Nat} (h:Zb Z H (.lst [.int .u8]) s (.slice a n c)) {k:Nat} (hk:k <= n):
  Zb Z H (.lst [.int .u8]) (s.drop k) (.slice (if c=k then a else Option.map (fun a=>Addr.add a (k*1)) a) (n - k) (c - k)):=by
 simp only [Zb] at h ⊢;obtain ⟨a',n',c',e,hl,hnc,hcm,hat⟩:=h;cases e;have hl:s.length=n:=hl;refine ⟨_,_,_,rfl,?_,by omega,by omega,fun h0=>?_⟩
 show (s.drop k).length=_;rw [Yq,hl]
 ·obtain ⟨b,o,rfl,hz,cs,T,fr,hb,hc⟩:=hat (by omega)
  rw [if_neg (by omega)]
  refine ⟨b,o+k,by simp [Addr.add],hz,cs,T,fr,hb,fun i x hx=>?_⟩
  have hx:(s.drop k)[i]? =some x:=hx;rw [YK] at hx;refine Ze.congr (fun jj _=>?_) (hc (k+i) x hx);congr 1;simp only [List.length_cons,List.length_nil];omega
theorem Zcat {Z:Nat->Prop} {H:Heap} {s:List UInt8} {a:Option Addr} {n c:Nat} (h:Zb Z H (.lst [.int .u8]) s (.slice a n c)) {i:Nat} {x:UInt8} (hx:s[i]? =some x):
  ∃b o,a=some ⟨b,o,none⟩∧Z b∧∀H':Heap,H' b=H b->H'.cell ⟨b,o+i,none⟩=some (.int .u8 (x.toNat:Int)):=by
 simp only [Zb] at h;obtain ⟨a',n',c',e,hl,hnc,hcm,hat⟩:=h;cases e;have hl:s.length=n:=hl;have hi:i<s.length:=(YYa.1 hx).1;obtain ⟨b,o,rfl,hz,cs,T,fr,hb,hc⟩:=hat (by omega)
 refine ⟨b,o,rfl,hz,fun H' he=>?_⟩;have h2:=hc i x hx;simp only [Ze,Zb,List.length_cons,List.length_nil,Yx,Yta,Nat.add_zero] at h2;obtain ⟨⟨v,h3,h4,_⟩,_⟩:=h2;unfold Heap.cell;simp only [he,hb];show cs[o+i]? =_;rw [h3,h4];rfl
theorem Zjn {H:Heap} {b:Nat} {v:Value} {T:TypeId} (h:H b=some (.cells ⟨[v]⟩ T (0,0))):H.cell ⟨b,0,none⟩=some v:=by simp [Heap.cell,h]
theorem Zcyk {H:Heap} (a n:Nat) (ha:a<4294967296) (hn:n <= 32):FnW Tryz.prog Zjr ⟨[.int .u32 (a:Int),.int .i64 (n:Int)]⟩ H fun v H'=>v= .int .u32 ((a - a%Zek n:Nat):Int)∧Keep Nil H H':=by
 refine Zdek a n ?_;unfold Zbnw;have e1:IntKind.wrap .i64 (32 - (n:Int))=((32 - n:Nat):Int):=by rw [Zh (by omega) (by omega)];omega
 rw [e1];refine ⟨by omega,fun H2 hs=>⟨?_,Zln (Keep.refl _ _) hs⟩⟩
 have hp:2^(32 - n) <= 2^32:=YW (by decide) (by omega)
 have h0:0<2^(32 - n):=YPa _;have e32:(2:Nat)^32=4294967296:=rfl;have e2:(min ((32 - n:Nat):Int).toNat (IntKind.bits .u64))=32 - n:=by rw [Int.toNat_natCast];have:IntKind.bits .u64=64:=rfl;rw [this];omega
 have e3:(1*(2^(32 - n)):Int)=((2^(32 - n):Nat):Int):=by rw [Int.one_mul];norm_cast
 rw [e2,e3,Zot _ (by omega),show (((2^(32 - n):Nat):Int) - 1)=((2^(32 - n) - 1:Nat):Int) by omega,Zot _ (by omega),wu32 (by omega),Zcbh a ha _ (by omega)]
 rfl
theorem Zdlp {H:Heap} (n:Nat) (hn:n <= 300):FnW Tryz.prog Zld ⟨[.int .i64 (n:Int)]⟩ H fun v H'=>v= .int .i64 (oct8 n:Nat)∧Keep Nil H H':=by
 refine Zdhm n ⟨by decide,fun H2 hs=>⟨?_,Zln (Keep.refl _ _) hs⟩⟩
 rw [Zh (n:=(n:Int)+8) (by omega) (by omega),Zh (n:=(n:Int)+8 - 1) (by omega) (by omega),Yga (by omega),Zh (by omega) (by omega)]
 unfold oct8;congr 1;omega
structure QI {l:Nat} (Hs:Heap) (Z:Nat->Prop) (b1:Nat) (C:Cons Tryz.prog l Zhz.ps Hs [b1]) (rest:List PfB) (s:List UInt8) (v:Value) (H:Heap) (Z' W':Nat->Prop):Prop where
 J:C.J Z' W' rest H
 bx: ∃T,H b1=some (.cells ⟨[v]⟩ T (0,0))
 cs:Zb Z Hs (.lst [.int .u8]) s v
 z: ∀b,Z b->Z' b∧H b=Hs b
 w1: ¬W' b1
 z1: ¬Z' b1
theorem QI.quiet {l:Nat} {Hs:Heap} {Z:Nat->Prop} {b1:Nat} {C:Cons Tryz.prog l Zhz.ps Hs [b1]} {rest:List PfB} {s:List UInt8} {v:Value} {H H':Heap} {Z' W':Nat->Prop} (q:QI Hs Z b1 C rest s v H Z' W') (hz0: ∀b,Z b->Hs b≠none) (k:Keep Nil H H'):QI Hs Z b1 C rest s v H' Z' W':=by obtain ⟨T,hb⟩:=q.bx;exact ⟨C.stJ q.J (fun b hb _=>k.same b (fun h=>h) hb) k.live,⟨T,(k.same b1 (fun h=>h) (by rw [hb];simp)).trans hb⟩,q.cs,fun b hb=>⟨(q.z b hb).1,(k.same b (fun h=>h) (by rw [(q.z b hb).2];exact hz0 b hb)).trans (q.z b hb).2⟩,q.w1,q.z1⟩
theorem QI.round {l:Nat} {Hs:Heap} {Z:Nat->Prop} {b1:Nat} {C:Cons Tryz.prog l Zhz.ps Hs [b1]} {rest:List PfB} {s:List UInt8} {v:Value} {H:Heap} {Z' W':Nat->Prop} {a n:Nat} {ok:Bool}
  (q:QI Hs Z b1 C (((UInt32.ofNat a,(n:Int)),ok,())::rest) s v H Z' W') (ha:a<4294967296) (hn:n <= 32):
  Zds Tryz.prog l [.agg ⟨[.int .u32 (a:Int),.int .i64 (n:Int)]⟩,.bool ok] H fun w H'=>(w= .bool true∧∃Z'' W'',QI Hs Z b1 C rest s v H' Z'' W'')∨(w= .bool false∧∃Z'' W'',C.X Z'' W'' H'):=by
 obtain ⟨T,hb⟩:=q.bx;have l1:H b1≠none:=by rw [hb];simp
 refine Zds.mono (fun w H' hv=>?_) (C.round (Zx:=fun _=>False) (x:=((UInt32.ofNat a,(n:Int)),ok,())) q.J ?_ (fun b hb=>hb.elim));obtain ⟨k1,k2,Z'',W'',k3,k4,k5,k6,k7,hk⟩:=hv;rcases hk with ⟨rfl,hk⟩ | ⟨rfl,hk⟩;refine .inl ⟨rfl,Z'',W'',hk,⟨T,(k1 b1 l1 q.w1).trans hb⟩,q.cs,fun b hb=>?_,fun h=>?_,fun h=>?_⟩;obtain ⟨q1,q2⟩:=k3 b (.inl (q.z b hb).1);exact ⟨q1,q2.trans (q.z b hb).2⟩;rcases k4 b1 h with h | h;exact q.w1 h;exact l1 h;rcases k5 b1 h with h | h | h | h;exact q.z1 h;exact h;exact q.w1 h;exact l1 h;exact .inr ⟨rfl,Z'',W'',hk⟩
 ·show Zjg _ H [.agg [.int .u32,.int .i64],.bool] ((UInt32.ofNat a,(n:Int)),ok,()) _;simp only [Zjg,pksA,pkA,SimL,SimV,and_true];refine ⟨_,rfl,?_⟩;have e:(UInt32.ofNat a).toNat=a:=by rw [YOa,YV (by omega)]
  simp only [lvT,lvE,SimL,SimV,and_true,hdT,tlT,toI,e,true_and];exact ⟨⟨by simp [loI],by simp only [hiI];omega⟩,⟨by simp only [loI];omega,by simp only [hiI];omega⟩⟩
section
variable {l:Nat} {Hs:Heap} {Z:Nat->Prop} {b1:Nat} {C:Cons Tryz.prog l Zhz.ps Hs [b1]}
theorem Zcei {x13 x16:Int} {next0:Unit->Heap->Prop} {s:List UInt8} {v:Value} {H:Heap} {Z' W':Nat->Prop} (q:QI Hs Z b1 C [((0,0),false,())] s v H Z' W'):
  Zou l b1 x13 x16 next0 true H fun _ H1=>∀H2,Shut Hs H1 H2->∃Z' W',C.J Z' W' [] H2∨C.X Z' W' H2:=by
 unfold Zou;refine ifT rfl (Zds.mono (fun w H' hv=>?_) (QI.round (a:=0) (n:=0) (ok:=false) (rest:=[]) q (by decide) (by decide)))
 rcases hv with ⟨rfl,Z'',W'',hq⟩ | ⟨rfl,Z'',W'',hx⟩;exact ⟨true,rfl,fun H2 hs=>C.shut hs ⟨Z'',W'',.inl hq.J⟩⟩;exact ⟨false,rfl,fun H2 hs=>C.shut hs ⟨Z'',W'',.inr hx⟩⟩
theorem Zdas {next0:Unit->Heap->Prop} {x:UInt8} {r:List UInt8} {v:Value} {H:Heap} {Z' W':Nat->Prop} (hz0: ∀b,Z b->Hs b≠none) (hok:x.toNat <= 32∧oct8 x.toNat <= r.length) (hl:(x::r).length <= 4611686018427387904)
  (q:QI Hs Z b1 C (Zbp (x::r)) (x::r) v H Z' W') (hn: ∀v' H' Z'' W'',QI Hs Z b1 C (Zbp (r.drop (oct8 x.toNat))) (r.drop (oct8 x.toNat)) v' H' Z'' W''->next0 () H'):
  Zou l b1 (x.toNat:Int) (oct8 x.toNat:Nat) next0 false H fun _ H1=>∀H2,Shut Hs H1 H2->∃Z' W',C.J Z' W' [] H2∨C.X Z' W' H2:=by
 have hv:=q.cs;simp only [Zb] at hv;obtain ⟨a,n,c,rfl,hln,hnc,hcm, -⟩:=hv;have hln:(x::r).length=n:=hln;simp only [List.length_cons] at hln hl;unfold Zw at hcm;have ho:oct8 x.toNat <= 4:=by unfold oct8;omega
 obtain ⟨T,hbx⟩:=q.bx;unfold Zou;have w1:IntKind.wrap .i64 (1+((oct8 x.toNat:Nat):Int))=((1+oct8 x.toNat:Nat):Int):=by rw [Zh (by omega) (by omega)];omega
 rw [w1];refine ifF rfl ⟨a,n,c,Zjn hbx,by omega,by omega,by omega,by omega,?_⟩
 rw [Int.toNat_natCast];refine ⟨fun k y H'=>∃j:Nat,j <= oct8 x.toNat∧k=oct8 x.toNat - j∧y=(pxF 0 0 (r.take j),(j:Int),())∧QI Hs Z b1 C (Zbp (x::r)) (x::r) (.slice a n c) H' Z' W',oct8 x.toNat,⟨0,YI _,by omega,rfl,q⟩,?_⟩
 rintro k y H5 ⟨j,hj,rfl,rfl,q5⟩ g;simp only;unfold Zciu;refine IfB.intro (fun h1=>?_) (fun h1=>?_)
 ·have h1:j<oct8 x.toNat:=by have:=of_decide_eq_true h1;omega
  obtain ⟨y,hy⟩: ∃y,r[j]? =some y:=⟨_,Yc (by omega)⟩
  obtain ⟨b,o,rfl,hzb,hcell⟩:=Zcat (i:=1+j) (x:=y) q.cs (by rw [Y7];simpa using hy)
  have hc1:c≠(1:Int).toNat:=by show c≠1;omega
  rw [if_neg hc1];refine NilP.intro _ rfl ⟨by omega,by omega,?_⟩
  show ∃x38:Int,H5.cell ⟨b,o+(1:Int).toNat*1+(j:Int).toNat*1,none⟩=some (.int .u8 x38)∧_;have e1:o+(1:Int).toNat*1+(j:Int).toNat*1=o+(1+j):=by rw [Int.toNat_natCast];show o+1*1+j*1=_;omega
  rw [e1];have w2:IntKind.wrap .i64 (24 - IntKind.wrap .i64 (8*(j:Int)))=((24 - 8*j:Nat):Int):=by
   rw [Zh (n:=8*(j:Int)) (by omega) (by omega),Zh (by omega) (by omega)];omega
  refine ⟨(y.toNat:Int),hcell H5 (q5.z b hzb).2,by rw [w2];omega,oct8 x.toNat - (j+1),by omega,j+1,by omega,rfl,?_,q5⟩
  rw [w2,Int.toNat_natCast,Zh (n:=(j:Int)+1) (by omega) (by omega),YFa,hy]
  simp only [Option.toList_some];rw [Zcli];have e3:(r.take j).length=j:=by rw [Yo];omega
  rw [e3,Yx];rfl
 ·have h1:j=oct8 x.toNat:=by have:=of_decide_eq_false h1;omega
  subst h1;have w3:IntKind.wrap .i64 (x.toNat:Int)=(x.toNat:Int):=Zh (by omega) (by omega)
  obtain ⟨e1,e2⟩:=Zcvn (r.take (oct8 x.toNat));rw [w3,e1];refine (Zcyk _ _ e2 hok.1).mono ?_;rintro w H6 ⟨rfl,k6⟩;refine ⟨_,rfl,?_⟩;have q6:=q5.quiet hz0 k6;rw [Zcgl hok] at q6;refine Zds.mono (fun w H7 hv=>?_) (QI.round (a:=pxN (r.take (oct8 x.toNat)) - pxN (r.take (oct8 x.toNat))%Zek x.toNat) (n:=x.toNat) (ok:=true) q6 (by omega) hok.1)
  rcases hv with ⟨rfl,Z'',W'',q7⟩ | ⟨rfl,Z'',W'',hx⟩
  ·refine ⟨true,rfl,ifF rfl ?_⟩;obtain ⟨T7,hb7⟩:=q7.bx;refine ⟨a,n,c,Zjn hb7,by omega,by omega,Zc.blk (T:=T7) hb7 (by simp) rfl ?_⟩
   rw [w1,Int.toNat_natCast];have hd:=Zdhn (k:=1+oct8 x.toNat) q7.cs (by omega)
   have e4:(x::r).drop (1+oct8 x.toNat)=r.drop (oct8 x.toNat):=by rw [Y7];rfl
   have hd:=(congrArg (fun z:List UInt8=>Zb Z Hs (.lst [.int .u8]) z (.slice (if c=1+oct8 x.toNat then a else Option.map (fun a=>Addr.add a ((1+oct8 x.toNat)*1)) a) (n - (1+oct8 x.toNat)) (c - (1+oct8 x.toNat)))) e4).mp hd
   refine hn _ _ Z'' W'' ⟨C.stJ q7.J (fun b hb hw=>?_) (fun b hb=>?_),⟨T7,?_⟩,hd,fun b hb=>⟨(q7.z b hb).1,?_⟩,q7.w1,q7.z1⟩;refine Sh.upd_ne fun e=>?_;subst e;rcases hw with h | h | h;exact q7.z1 h;exact q7.w1 h;exact h.2 (by simp)
   by_cases e:b=b1;subst e;rw [Sh.upd_eq];simp;rw [Sh.upd_ne e];exact hb;rw [Sh.upd_eq];rfl
   ·have hne:b≠b1:=fun e=>by subst e;exact q7.z1 (q7.z b hb).1
    rw [Sh.upd_ne hne];exact (q7.z b hb).2
  exact ⟨false,rfl,ifT rfl fun H2 hs=>C.shut hs ⟨Z'',W'',.inr hx⟩⟩
theorem Zdlb {T1:TypeId} {W:Nat->Prop} {s:List UInt8} {v1:Value} (hz0: ∀b,Z b->Hs b≠none) (hl:s.length <= 4611686018427387904) (hs:Zb Z Hs (.lst [.int .u8]) s v1)
  (hb1:Hs b1=some (.cells ⟨[v1]⟩ T1 (0,0))) (hz1: ¬Z b1) (hw1: ¬W b1) (hJ:C.J Z W (Zbp s) Hs):
  FnW Tryz.prog Zqx ⟨[.func (.yield l) #[] #[],Zdg b1]⟩ Hs fun _ H'=>∃Z' W',C.J Z' W' [] H'∨C.X Z' W' H':=by
 refine Zczi l b1 ?_;unfold Zbpy;refine ⟨fun k _ H=>∃s v Z' W',k=s.length∧s.length <= 4611686018427387904∧QI Hs Z b1 C (Zbp s) s v H Z' W',s.length,⟨s,v1,Z,W,rfl,hl,hJ,⟨T1,hb1⟩,hs,fun b hb=>⟨hb,rfl⟩,hw1,hz1⟩,?_⟩;rintro k u H ⟨s,v,Z',W',rfl,hl,q⟩ g;have hv:=q.cs;simp only [Zb] at hv;obtain ⟨a,n,c,rfl,hln,hnc,hcm, -⟩:=hv;have hln:s.length=n:=hln;obtain ⟨T,hbx⟩:=q.bx;unfold Zcep;refine ⟨a,n,c,Zjn hbx,IfB.intro (fun h1=>?_) (fun h1=>?_)⟩
 ·have h1:0<n:=by have:=of_decide_eq_true h1;omega
  cases s with
  | nil=>simp at hln;omega
  | cons x r=>
  obtain ⟨b,o,rfl,hzb,hcell⟩:=Zcat (i:=0) (x:=x) q.cs rfl;refine ⟨_,n,c,Zjn hbx,NilP.intro _ rfl ⟨by omega,by omega,?_⟩⟩
  have hx:=YD x;have w3:IntKind.wrap .i64 (x.toNat:Int)=(x.toNat:Int):=Zh (by omega) (by omega)
  refine ⟨(x.toNat:Int),hcell H (q.z b hzb).2,?_⟩;rw [w3];refine (Zdlp x.toNat (by omega)).mono ?_
  rintro w H2 ⟨rfl,k2⟩;have q2:=q.quiet hz0 k2;obtain ⟨T2,hbx2⟩:=q2.bx;refine ⟨_,rfl,IfB.intro (fun h2=>?_) (fun h2=>?_)⟩
  ·have h2: ¬(x.toNat <= 32∧oct8 x.toNat <= r.length):=fun h=>by have:=of_decide_eq_true h2;omega
   rw [Zbtw h2] at q2;exact Zcei q2
  ·have h2:x.toNat <= 32:=by have:=of_decide_eq_false h2;omega
   refine ⟨_,n,c,Zjn hbx2,?_⟩;simp only [List.length_cons] at hln hl;rw [Zh (n:=(n:Int) - 1) (by omega) (by omega)]
   by_cases h3:oct8 x.toNat <= r.length
   ·rw [decide_eq_false (by omega)]
    refine Zdas hz0 ⟨h2,h3⟩ (by simp only [List.length_cons];omega) q2 fun v' H' Z'' W'' q'=>⟨_,?_,_,v',Z'',W'',rfl,?_,q'⟩
    simp only [Yq,List.length_cons];omega;simp only [Yq];omega
   ·rw [decide_eq_true (by omega)]
    have h4: ¬(x.toNat <= 32∧oct8 x.toNat <= r.length):=fun h=>h3 h.2;rw [Zbtw h4] at q2;exact Zcei q2
 ·have h1:n=0:=by have:=of_decide_eq_false h1;omega
  have:s= []:=Yl (by omega)
  subst this;exact fun H2 hs2=>C.shut hs2 ⟨Z',W',.inl q.J⟩
end
theorem Zddg:ItOk Tryz.prog Zqx Zhz:=by
 intro Hs Z W bs us c l C hpre hnd hlen hval hus hwf hzl hbz hwl hlay hlo hJ;obtain ⟨s,cu⟩:=c;have hus':SimL ⟨Z,fun _=>0,fun _=> .nilFunc⟩ Hs 0 [AV.lst [.int .u8] s] us:=hus
 match us,hus' with
 | [v1],hus'=>
 match bs,hlen with
 | [b1],_=>
 simp only [SimL,SimV] at hus';obtain ⟨T1,hb1⟩:=hval 0 b1 v1 rfl rfl;exact Zdlb hzl hpre hus'.1 hb1 (hbz b1 (by simp)).1 (hbz b1 (by simp)).2 hJ
def chunks (n:Nat):Nat->List UInt8->List (List UInt8)
 | 0,_=>[]
 | _+1,[]=>[]
 | k+1,x::r=>(x::r).take n::chunks n k ((x::r).drop n)
theorem Zcdc {n:Nat} (hn:0<n): ∀(k k':Nat) (s:List UInt8),s.length <= k->s.length <= k'->chunks n k s=chunks n k' s
 | 0,0,s,_,_=>rfl
 | 0,k'+1,[],_,_=>rfl
 | 0,_+1,_::_,h,_=>by simp at h
 | k+1,0,[],_,_=>rfl
 | _+1,0,_::_,_,h=>by simp at h
 | k+1,k'+1,[],_,_=>rfl
 | k+1,k'+1,x::r,h,h'=>by
  simp only [chunks];have e:((x::r).drop n).length <= r.length:=by simp only [Yq,List.length_cons];omega
  simp only [List.length_cons] at h h';rw [Zcdc hn k k' _ (by omega) (by omega)]
def Zgk (s:List UInt8) (n:Int):List (List UInt8×Unit):=(chunks n.toNat s.length s).map fun x=>(x,())
theorem Zdaz (n:Int):Zgk [] n= []:=rfl
theorem Zciq {s:List UInt8} {n:Int} (hn:1 <= n) (hs:s≠[]):Zgk s n=(s.take n.toNat,())::Zgk (s.drop n.toNat) n:=by
 cases s with
 | nil=>exact absurd rfl hs
 | cons x r=>
  unfold Zgk;have e:((x::r).drop n.toNat).length <= r.length:=by simp only [Yq,List.length_cons];omega
  simp only [List.length_cons,chunks,YG];rw [Zcdc (by omega) r.length _ _ e (Yh _)]
def Zbid (s:List UInt8) (n:Int):Prop:=1 <= n∧n <= 4611686018427387904∧s.length <= 4611686018427387904
def Zmk:It:=⟨[.lst [.int .u8]],[.lst [.int .u8],.int .i64],fun c=>Zgk c.1 c.2.1,fun c=>Zbid c.1 c.2.1⟩
theorem Zbwt {A:Type} {l:List A} (h:l.length=2): ∃a b,l= [a,b]:=by
 match l,h with
 | [a,b],_=>exact ⟨a,b,rfl⟩
theorem Zcnq {Hs:Heap} {Z W:Nat->Prop} {b1 b2:Nat} {T1 T2:TypeId} {s:List UInt8} {n:Int} {v1:Value} {l:Nat} {C:Cons Tryz.prog l Zmk.ps Hs [b1,b2]} (hpre:Zbid s n) (hs:Zb Z Hs (.lst [.int .u8]) s v1)
  (hb1:Hs b1=some (.cells ⟨[v1]⟩ T1 (0,0))) (hb2:Hs b2=some (.cells ⟨[.int .i64 n]⟩ T2 (0,0))) (hw1: ¬W b1) (hw2: ¬W b2) (hJ:C.J Z W (Zgk s n) Hs):
  FnW Tryz.prog Zid ⟨[.func (.yield l) #[] #[],Zdg b1,Zdg b2]⟩ Hs fun _ H'=>∃Z' W',C.J Z' W' [] H'∨C.X Z' W' H':=by
 obtain ⟨hn1,hn2,hsl⟩:=hpre;simp only [Zb] at hs;obtain ⟨a,m,cp,rfl,hsm,hmc,hcm,hat⟩:=hs;have hsm':s.length=m:=hsm;unfold Zw at hcm;refine Zdbm l b1 b2 ?_;unfold Zblp;refine ⟨fun k x H=>∃(i:Nat) (Z' W':Nat->Prop),x.1=(i:Int)∧k=s.length - i∧C.J Z' W' (Zgk (s.drop i) n) H∧H b1=Hs b1∧H b2=Hs b2∧(∀b,Z b->Z' b∧H b=Hs b)∧¬W' b1∧¬W' b2,s.length,⟨0,Z,W,rfl,rfl,hJ,rfl,rfl,fun b hb=>⟨hb,rfl⟩,hw1,hw2⟩,?_⟩
 rintro k x H ⟨i,Z',W',hx,rfl,hJi,h1,h2,hZ,hw1,hw2⟩ gE;have c1:=Zjn (h1.trans hb1);have c2:=Zjn (h2.trans hb2);obtain ⟨xi,xu⟩:=x;simp only at hx;subst hx;simp only;unfold Zbub;refine ⟨a,m,cp,c1,?_⟩;refine IfB.intro (fun hlt=>?_) (fun hge=>?_)
 ·have him:i<m:=by have:=of_decide_eq_true hlt;omega
  refine ⟨n,c2,a,m,cp,c1,by omega,by omega,a,m,cp,c1,?_⟩
  have he: ∃e:Nat,e=min n.toNat (m - i):=⟨_,rfl⟩;obtain ⟨e,he⟩:=he;have hw:IntKind.wrap .i64 ((i:Int)+(min n ((m - (i:Int).toNat:Nat):Int)))=((i+e:Nat):Int):=by rw [Zh]<;>simp only [Int.toNat_natCast]<;>omega
  rw [hw];refine ⟨by omega,by omega,?_⟩
  simp only [Int.toNat_natCast];refine ⟨by omega,by omega,?_⟩
  simp only [Int.toNat_natCast];refine ⟨by omega,by omega,?_⟩
  simp only [Int.toNat_natCast];rw [if_neg (by omega)]
  obtain ⟨b,o,rfl,hzb,cs,T,fr,hcb,hcc⟩:=hat (by omega)
  have hne:s.drop i≠[]:=fun h0=>by have:=congrArg List.length h0;simp only [Yq,List.length_nil] at this;omega
  rw [Zciq hn1 hne] at hJi;refine Zds.mono (fun v H' hv=>?_) (C.round (Zx:=Z) hJi ?_ (fun b hb=> .inl (hZ b hb).1))
  ·obtain ⟨k1,k2,Z'',W'',k3,k4,k5,k6,k7,hk⟩:=hv;have hl1:H b1≠none:=by rw [h1,hb1];simp
   have hl2:H b2≠none:=by rw [h2,hb2];simp
   rcases hk with ⟨rfl,hk⟩ | ⟨rfl,hk⟩
   ·refine ⟨true,rfl,ifF rfl ⟨n,Zjn (((k1 b2 hl2 hw2).trans h2).trans hb2),s.length - (i+n.toNat),by omega,i+n.toNat,Z'',W'',?_,rfl,?_,(k1 b1 hl1 hw1).trans h1,(k1 b2 hl2 hw2).trans h2,fun b hb=>?_,fun h=>?_,fun h=>?_⟩⟩
    show IntKind.wrap .i64 ((i:Int)+n)=_;rw [Zh]<;>omega;rw [← List.drop_drop];exact hk;obtain ⟨q1,q2⟩:=k3 b (.inl (hZ b hb).1);exact ⟨q1,q2.trans (hZ b hb).2⟩;rcases k4 b1 h with h | h;exact hw1 h;exact hl1 h;rcases k4 b2 h with h | h;exact hw2 h;exact hl2 h
   exact ⟨false,rfl,ifT rfl fun H2 hs2=>C.shut hs2 ⟨Z'',W'',.inr hk⟩⟩
  ·show Zjg Z H [.lst [.int .u8]] ((s.drop i).take n.toNat,()) _;simp only [Zjg,pksA,pkA,SimL,SimV,and_true];simp only [Zb];refine ⟨_,_,_,rfl,?_,Yh _,by unfold Zw;omega,fun _=>⟨b,o+i,by simp [Addr.add],hzb,cs,T,fr,by rw [(hZ b hzb).2];exact hcb,fun j x hj=>?_⟩⟩
   show ((s.drop i).take n.toNat).length=_;simp only [Yo,Yq];omega;have hj':((s.drop i).take n.toNat)[j]? =some x:=hj;rw [YU] at hj';split at hj';rw [YK] at hj';refine Ze.congr (fun jj _=>?_) (Ze.ext (fun b hb=>⟨hb,(hZ b hb).2⟩) _ _ _ (hcc (i+j) x hj'));congr 1;simp only [List.length_cons,List.length_nil];omega;cases hj'
 ·have hge':m <= i:=by have:=of_decide_eq_false hge;omega
  intro H2 hs2;refine C.shut hs2 ⟨Z',W',.inl ?_⟩;have:s.drop i= []:=YCa (by omega)
  rw [this] at hJi;exact hJi
theorem Zcdv:ItOk Tryz.prog Zid Zmk:=by
 intro Hs Z W bs us c l C hpre hnd hlen hval hus hwf hzl hbz hwl hlay hlo hJ;obtain ⟨s,n,cu⟩:=c;have hus':SimL ⟨Z,fun _=>0,fun _=> .nilFunc⟩ Hs 0 [AV.lst [.int .u8] s,.int .i64 n] us:=hus;obtain ⟨v1,v2,rfl⟩:=Zbwt (hus'.len).symm;obtain ⟨b1,b2,rfl⟩:=Zbwt (l:=bs) (by rw [hlen];rfl)
 simp only [SimL,SimV] at hus';obtain ⟨hs,⟨rfl,hnr⟩,_⟩:=hus';obtain ⟨T1,hb1⟩:=hval 0 b1 v1 rfl rfl;obtain ⟨T2,hb2⟩:=hval 1 b2 _ rfl rfl;exact Zcnq hpre hs hb1 hb2 (hbz b1 (by simp)).2 (hbz b2 (by simp)).2 hJ
end Go.Proofs.YthhcfdpoiganhaaGreat
end
section
set_option maxRecDepth 100000
namespace Go.Proofs.YthhcfdpoiganhaaGreat
open Go.Sh
noncomputable def Zbmz:List Value:=(Zco Tryz.prog Zea).getD []
def Zcea:Plan:=⟨[(12,[0,1,2,3,4,5,6,7,8],[76]),(14,[0,1,2,3,4,5,6,7,8,9,10,11],[87])],[(2,[0],[.slice],[2,6,8,9])],[],[]⟩
theorem Zddu:Known Tryz.prog Znr Tryz.f27 Zcea (Zg Tryz.f27):=by refine ⟨Tryz.func27,?_,?_,?_,?_,?_⟩<;>kernel_rfl
def Zbts (x6b:Nat) (x8b:Nat) (x14b:Nat) (x70:Int) (next2:((Option Addr×Nat×Nat)×Unit)->Heap->Prop) (H16:Heap) (R:Value->Heap->Prop):Prop:=
 IfB (decide ((x70:Int)≥2))
 (∃bs:List Nat,(∀b∈bs,∃o,H16 b=some o)∧
 x14b∈bs∧∃x76:Int,H16.cell ⟨x14b,14,none⟩=some (Value.int .i64 x76)∧
 Zc H16 ⟨x6b,0,none⟩ (Value.int .i64 0) fun H17=>
 Zc H17 ⟨x6b,1,none⟩ (Value.slice none 0 0) fun H18=>
 Zc H18 ⟨x6b,2,none⟩ (Value.int .u32 0) fun H19=>
 Zc H19 ⟨x6b,3,none⟩ (Value.bool false) fun H20=>
 Zc H20 ⟨x6b,4,none⟩ (Value.int .u32 0) fun H21=>
 Zc H21 ⟨x6b,5,none⟩ (Value.bool false) fun H22=>
 Zc H22 ⟨x6b,6,none⟩ (Value.int .u32 0) fun H23=>
 Zc H23 ⟨x6b,7,none⟩ (Value.bool false) fun H24=>
 Zc H24 ⟨x6b,8,none⟩ (Value.bool false) fun H25=>
 Zc H25 ⟨x6b,9,none⟩ (Value.int .u32 0) fun H26=>
 Zc H26 ⟨x6b,10,none⟩ (Value.int .u32 0) fun H27=>
 Zc H27 ⟨x6b,11,none⟩ (Value.slice none 0 0) fun H28=>
 Zc H28 ⟨x6b,12,none⟩ (Value.slice none 0 0) fun H29=>
 Zes bs H16 H29∧Zc H29 ⟨x8b,0,none⟩ (Value.int .i64 0) fun H30=>
 Zc H30 ⟨x8b,1,none⟩ (Value.int .i64 0) fun H31=>
 Zc H31 ⟨x8b,2,none⟩ (Value.slice none 0 0) fun H32=>
 ∃r0c0:Int,H32.cell ⟨x6b,0,none⟩=some (Value.int .i64 r0c0)∧∃(r0c1a:Option Addr) (r0c1n r0c1c:Nat),H32.cell ⟨x6b,1,none⟩=some (Value.slice r0c1a r0c1n r0c1c)∧∃r0c2:Int,H32.cell ⟨x6b,2,none⟩=some (Value.int .u32 r0c2)∧∃r0c3:Bool,H32.cell ⟨x6b,3,none⟩=some (Value.bool r0c3)∧∃r0c4:Int,H32.cell ⟨x6b,4,none⟩=some (Value.int .u32 r0c4)∧∃r0c5:Bool,H32.cell ⟨x6b,5,none⟩=some (Value.bool r0c5)∧∃r0c6:Int,H32.cell ⟨x6b,6,none⟩=some (Value.int .u32 r0c6)∧∃r0c7:Bool,H32.cell ⟨x6b,7,none⟩=some (Value.bool r0c7)∧∃r0c8:Bool,H32.cell ⟨x6b,8,none⟩=some (Value.bool r0c8)∧∃r0c9:Int,H32.cell ⟨x6b,9,none⟩=some (Value.int .u32 r0c9)∧∃r0c10:Int,H32.cell ⟨x6b,10,none⟩=some (Value.int .u32 r0c10)∧∃(r0c11a:Option Addr) (r0c11n r0c11c:Nat),H32.cell ⟨x6b,11,none⟩=some (Value.slice r0c11a r0c11n r0c11c)∧∃(r0c12a:Option Addr) (r0c12n r0c12c:Nat),H32.cell ⟨x6b,12,none⟩=some (Value.slice r0c12a r0c12n r0c12c)∧∃r2c0:Int,H32.cell ⟨x8b,0,none⟩=some (Value.int .i64 r2c0)∧∃r2c1:Int,H32.cell ⟨x8b,1,none⟩=some (Value.int .i64 r2c1)∧∃(r2c2a:Option Addr) (r2c2n r2c2c:Nat),H32.cell ⟨x8b,2,none⟩=some (Value.slice r2c2a r2c2n r2c2c)∧R (Value.tuple ⟨[(Value.agg ⟨[(Value.int .i64 r0c0),(Value.slice r0c1a r0c1n r0c1c),(Value.int .u32 r0c2),(Value.bool r0c3),(Value.int .u32 r0c4),(Value.bool r0c5),(Value.int .u32 r0c6),(Value.bool r0c7),(Value.bool r0c8),(Value.int .u32 r0c9),(Value.int .u32 r0c10),(Value.slice r0c11a r0c11n r0c11c),(Value.slice r0c12a r0c12n r0c12c)]⟩),(Value.int .i64 x76),(Value.agg ⟨[(Value.int .i64 r2c0),(Value.int .i64 r2c1),(Value.slice r2c2a r2c2n r2c2c)]⟩)]⟩) H32)
 (FnW Tryz.prog Zzs ⟨[(Value.pointer (some ⟨x14b,0,none⟩))]⟩ H16 fun x79v H33=>
 x79v=(Value.tuple ⟨[]⟩)∧
 ∃bs:List Nat,(∀b∈bs,∃o,H33 b=some o)∧
 ∃x83c0:Int,H33.cell ⟨x14b,0,none⟩=some (Value.int .i64 x83c0)∧∃(x83c1a:Option Addr) (x83c1n x83c1c:Nat),H33.cell ⟨x14b,1,none⟩=some (Value.slice x83c1a x83c1n x83c1c)∧∃x83c2:Int,H33.cell ⟨x14b,2,none⟩=some (Value.int .u32 x83c2)∧∃x83c3:Bool,H33.cell ⟨x14b,3,none⟩=some (Value.bool x83c3)∧∃x83c4:Int,H33.cell ⟨x14b,4,none⟩=some (Value.int .u32 x83c4)∧∃x83c5:Bool,H33.cell ⟨x14b,5,none⟩=some (Value.bool x83c5)∧∃x83c6:Int,H33.cell ⟨x14b,6,none⟩=some (Value.int .u32 x83c6)∧∃x83c7:Bool,H33.cell ⟨x14b,7,none⟩=some (Value.bool x83c7)∧∃x83c8:Bool,H33.cell ⟨x14b,8,none⟩=some (Value.bool x83c8)∧∃x83c9:Int,H33.cell ⟨x14b,9,none⟩=some (Value.int .u32 x83c9)∧∃x83c10:Int,H33.cell ⟨x14b,10,none⟩=some (Value.int .u32 x83c10)∧∃(x83c11a:Option Addr) (x83c11n x83c11c:Nat),H33.cell ⟨x14b,11,none⟩=some (Value.slice x83c11a x83c11n x83c11c)∧∃(x83c12a:Option Addr) (x83c12n x83c12c:Nat),H33.cell ⟨x14b,12,none⟩=some (Value.slice x83c12a x83c12n x83c12c)∧x14b∈bs∧∃x87:Int,H33.cell ⟨x14b,14,none⟩=some (Value.int .i64 x87)∧
 Zc H33 ⟨x6b,0,none⟩ (Value.int .i64 x83c0) fun H34=>
 Zc H34 ⟨x6b,1,none⟩ (Value.slice x83c1a x83c1n x83c1c) fun H35=>
 Zc H35 ⟨x6b,2,none⟩ (Value.int .u32 x83c2) fun H36=>
 Zc H36 ⟨x6b,3,none⟩ (Value.bool x83c3) fun H37=>
 Zc H37 ⟨x6b,4,none⟩ (Value.int .u32 x83c4) fun H38=>
 Zc H38 ⟨x6b,5,none⟩ (Value.bool x83c5) fun H39=>
 Zc H39 ⟨x6b,6,none⟩ (Value.int .u32 x83c6) fun H40=>
 Zc H40 ⟨x6b,7,none⟩ (Value.bool x83c7) fun H41=>
 Zc H41 ⟨x6b,8,none⟩ (Value.bool x83c8) fun H42=>
 Zc H42 ⟨x6b,9,none⟩ (Value.int .u32 x83c9) fun H43=>
 Zc H43 ⟨x6b,10,none⟩ (Value.int .u32 x83c10) fun H44=>
 Zc H44 ⟨x6b,11,none⟩ (Value.slice x83c11a x83c11n x83c11c) fun H45=>
 Zc H45 ⟨x6b,12,none⟩ (Value.slice x83c12a x83c12n x83c12c) fun H46=>
 Zes bs H33 H46∧Zc H46 ⟨x8b,0,none⟩ (Value.int .i64 0) fun H47=>
 Zc H47 ⟨x8b,1,none⟩ (Value.int .i64 0) fun H48=>
 Zc H48 ⟨x8b,2,none⟩ (Value.slice none 0 0) fun H49=>
 ∃r0c0_1:Int,H49.cell ⟨x6b,0,none⟩=some (Value.int .i64 r0c0_1)∧∃(r0c1a_1:Option Addr) (r0c1n_1 r0c1c_1:Nat),H49.cell ⟨x6b,1,none⟩=some (Value.slice r0c1a_1 r0c1n_1 r0c1c_1)∧∃r0c2_1:Int,H49.cell ⟨x6b,2,none⟩=some (Value.int .u32 r0c2_1)∧∃r0c3_1:Bool,H49.cell ⟨x6b,3,none⟩=some (Value.bool r0c3_1)∧∃r0c4_1:Int,H49.cell ⟨x6b,4,none⟩=some (Value.int .u32 r0c4_1)∧∃r0c5_1:Bool,H49.cell ⟨x6b,5,none⟩=some (Value.bool r0c5_1)∧∃r0c6_1:Int,H49.cell ⟨x6b,6,none⟩=some (Value.int .u32 r0c6_1)∧∃r0c7_1:Bool,H49.cell ⟨x6b,7,none⟩=some (Value.bool r0c7_1)∧∃r0c8_1:Bool,H49.cell ⟨x6b,8,none⟩=some (Value.bool r0c8_1)∧∃r0c9_1:Int,H49.cell ⟨x6b,9,none⟩=some (Value.int .u32 r0c9_1)∧∃r0c10_1:Int,H49.cell ⟨x6b,10,none⟩=some (Value.int .u32 r0c10_1)∧∃(r0c11a_1:Option Addr) (r0c11n_1 r0c11c_1:Nat),H49.cell ⟨x6b,11,none⟩=some (Value.slice r0c11a_1 r0c11n_1 r0c11c_1)∧∃(r0c12a_1:Option Addr) (r0c12n_1 r0c12c_1:Nat),H49.cell ⟨x6b,12,none⟩=some (Value.slice r0c12a_1 r0c12n_1 r0c12c_1)∧∃r2c0_1:Int,H49.cell ⟨x8b,0,none⟩=some (Value.int .i64 r2c0_1)∧∃r2c1_1:Int,H49.cell ⟨x8b,1,none⟩=some (Value.int .i64 r2c1_1)∧∃(r2c2a_1:Option Addr) (r2c2n_1 r2c2c_1:Nat),H49.cell ⟨x8b,2,none⟩=some (Value.slice r2c2a_1 r2c2n_1 r2c2c_1)∧R (Value.tuple ⟨[(Value.agg ⟨[(Value.int .i64 r0c0_1),(Value.slice r0c1a_1 r0c1n_1 r0c1c_1),(Value.int .u32 r0c2_1),(Value.bool r0c3_1),(Value.int .u32 r0c4_1),(Value.bool r0c5_1),(Value.int .u32 r0c6_1),(Value.bool r0c7_1),(Value.bool r0c8_1),(Value.int .u32 r0c9_1),(Value.int .u32 r0c10_1),(Value.slice r0c11a_1 r0c11n_1 r0c11c_1),(Value.slice r0c12a_1 r0c12n_1 r0c12c_1)]⟩),(Value.int .i64 x87),(Value.agg ⟨[(Value.int .i64 r2c0_1),(Value.int .i64 r2c1_1),(Value.slice r2c2a_1 r2c2n_1 r2c2c_1)]⟩)]⟩) H49)
def Zbbv (x6b:Nat) (x8b:Nat) (x14b:Nat) (next2:((Option Addr×Nat×Nat)×Unit)->Heap->Prop) (H15:Heap) (R:Value->Heap->Prop):Prop:=
 ∃x70:Int,H15.cell ⟨x14b,14,none⟩=some (Value.int .i64 x70)∧
 Zbts x6b x8b x14b x70 next2 H15 R
def Zov (x6b:Nat) (x8b:Nat) (x14b:Nat) (next2:((Option Addr×Nat×Nat)×Unit)->Heap->Prop) (x64:Bool) (H13:Heap) (R:Value->Heap->Prop):Prop:=
 IfB x64
 (FnW Tryz.prog Zht ⟨[(Value.pointer (some ⟨x14b,0,none⟩)),(Value.int .i64 2)]⟩ H13 fun x66v H14=>
 x66v=(Value.tuple ⟨[]⟩)∧
 Zbbv x6b x8b x14b next2 H14 R)
 (Zbbv x6b x8b x14b next2 H13 R)
def Zbba (told2:Bool) (x6b:Nat) (x8b:Nat) (x14b:Nat) (next2:((Option Addr×Nat×Nat)×Unit)->Heap->Prop) (H12:Heap) (R:Value->Heap->Prop):Prop:=
 IfB told2
 (InB 1 256 fun x47i=>
 ∃x48:Bool,H12.cell ⟨x14b,15+x47i*1,none⟩=some (Value.bool x48)∧
 IfB x48
 (InB 2 256 fun x53i=>
 ∃x54:Bool,H12.cell ⟨x14b,15+x53i*1,none⟩=some (Value.bool x54)∧
 IfB x54
 (InB 3 256 fun x60i=>
 ∃x61:Bool,H12.cell ⟨x14b,15+x60i*1,none⟩=some (Value.bool x61)∧
 Zov x6b x8b x14b next2 (!x61) H12 R)
 (Zov x6b x8b x14b next2 true H12 R))
 (Zov x6b x8b x14b next2 true H12 R))
 (Zov x6b x8b x14b next2 false H12 R)
def Zbsh (told2:Bool) (x6b:Nat) (x8b:Nat) (x14b:Nat) (b0a_1:Option Addr) (b0n_1:Nat) (b0c_1:Nat) (H4:Heap) (next2:((Option Addr×Nat×Nat)×Unit)->Heap->Prop) (R:Value->Heap->Prop):Prop:=
 IfB (decide (((b0n_1:Int):Int)>0))
 (FnW Tryz.prog Zbbd ⟨[(Value.slice b0a_1 b0n_1 b0c_1)]⟩ H4 fun x20v H5=>
 ∃x20r0c0:Int,∃x20r0c1:Int,∃(x20r0c2a:Option Addr) (x20r0c2n x20r0c2c:Nat),∃x20r0c3:Int,∃x20r1:Bool,x20v=(Value.tuple ⟨[(Value.agg ⟨[(Value.int .u8 x20r0c0),(Value.int .i64 x20r0c1),(Value.slice x20r0c2a x20r0c2n x20r0c2c),(Value.int .i64 x20r0c3)]⟩),(Value.bool x20r1)]⟩)∧
 NewW H5 (Obj.cells ⟨[(Value.int .u8 0),(Value.int .i64 0),(Value.slice none 0 0),(Value.int .i64 0)]⟩ Zkh) fun p10b H6=>
 Zc H6 ⟨p10b,0,none⟩ (Value.int .u8 x20r0c0) fun H7=>
 Zc H7 ⟨p10b,1,none⟩ (Value.int .i64 x20r0c1) fun H8=>
 Zc H8 ⟨p10b,2,none⟩ (Value.slice x20r0c2a x20r0c2n x20r0c2c) fun H9=>
 Zc H9 ⟨p10b,3,none⟩ (Value.int .i64 x20r0c3) fun H10=>
 IfB (!x20r1)
 (FnW Tryz.prog Zht ⟨[(Value.pointer (some ⟨x14b,0,none⟩)),(Value.int .i64 2)]⟩ H10 fun x26v H11=>
 x26v=(Value.tuple ⟨[]⟩)∧
 Zbba told2 x6b x8b x14b next2 H11 R)
 (∃x28c0:Int,H10.cell ⟨p10b,0,none⟩=some (Value.int .u8 x28c0)∧∃x28c1:Int,H10.cell ⟨p10b,1,none⟩=some (Value.int .i64 x28c1)∧∃(x28c2a:Option Addr) (x28c2n x28c2c:Nat),H10.cell ⟨p10b,2,none⟩=some (Value.slice x28c2a x28c2n x28c2c)∧∃x28c3:Int,H10.cell ⟨p10b,3,none⟩=some (Value.int .i64 x28c3)∧FnW Tryz.prog Ztn ⟨[(Value.pointer (some ⟨x14b,0,none⟩)),(Value.agg ⟨[(Value.int .u8 x28c0),(Value.int .i64 x28c1),(Value.slice x28c2a x28c2n x28c2c),(Value.int .i64 x28c3)]⟩)]⟩ H10 fun x29v H50=>
 ∃x29:Bool,x29v=(Value.bool x29)∧
 IfB (!x29)
 (∃x34:Int,H50.cell ⟨p10b,3,none⟩=some (Value.int .i64 x34)∧
 InC x34 b0c_1 fun x35h=>
 FnW Tryz.prog Zlp ⟨[(Value.slice b0a_1 x35h b0c_1)]⟩ H50 fun x36v H51=>
 ∃(x36a:Option Addr) (x36n x36c:Nat),x36v=(Value.slice x36a x36n x36c)∧
 Zc H51 ⟨x6b,0,none⟩ (Value.int .i64 0) fun H52=>
 Zc H52 ⟨x6b,1,none⟩ (Value.slice none 0 0) fun H53=>
 Zc H53 ⟨x6b,2,none⟩ (Value.int .u32 0) fun H54=>
 Zc H54 ⟨x6b,3,none⟩ (Value.bool false) fun H55=>
 Zc H55 ⟨x6b,4,none⟩ (Value.int .u32 0) fun H56=>
 Zc H56 ⟨x6b,5,none⟩ (Value.bool false) fun H57=>
 Zc H57 ⟨x6b,6,none⟩ (Value.int .u32 0) fun H58=>
 Zc H58 ⟨x6b,7,none⟩ (Value.bool false) fun H59=>
 Zc H59 ⟨x6b,8,none⟩ (Value.bool false) fun H60=>
 Zc H60 ⟨x6b,9,none⟩ (Value.int .u32 0) fun H61=>
 Zc H61 ⟨x6b,10,none⟩ (Value.int .u32 0) fun H62=>
 Zc H62 ⟨x6b,11,none⟩ (Value.slice none 0 0) fun H63=>
 Zc H63 ⟨x6b,12,none⟩ (Value.slice none 0 0) fun H64=>
 Zc H64 ⟨x8b,0,none⟩ (Value.int .i64 3) fun H65=>
 Zc H65 ⟨x8b,1,none⟩ (Value.int .i64 2) fun H66=>
 Zc H66 ⟨x8b,2,none⟩ (Value.slice x36a x36n x36c) fun H67=>
 ∃r0c0_2:Int,H67.cell ⟨x6b,0,none⟩=some (Value.int .i64 r0c0_2)∧∃(r0c1a_2:Option Addr) (r0c1n_2 r0c1c_2:Nat),H67.cell ⟨x6b,1,none⟩=some (Value.slice r0c1a_2 r0c1n_2 r0c1c_2)∧∃r0c2_2:Int,H67.cell ⟨x6b,2,none⟩=some (Value.int .u32 r0c2_2)∧∃r0c3_2:Bool,H67.cell ⟨x6b,3,none⟩=some (Value.bool r0c3_2)∧∃r0c4_2:Int,H67.cell ⟨x6b,4,none⟩=some (Value.int .u32 r0c4_2)∧∃r0c5_2:Bool,H67.cell ⟨x6b,5,none⟩=some (Value.bool r0c5_2)∧∃r0c6_2:Int,H67.cell ⟨x6b,6,none⟩=some (Value.int .u32 r0c6_2)∧∃r0c7_2:Bool,H67.cell ⟨x6b,7,none⟩=some (Value.bool r0c7_2)∧∃r0c8_2:Bool,H67.cell ⟨x6b,8,none⟩=some (Value.bool r0c8_2)∧∃r0c9_2:Int,H67.cell ⟨x6b,9,none⟩=some (Value.int .u32 r0c9_2)∧∃r0c10_2:Int,H67.cell ⟨x6b,10,none⟩=some (Value.int .u32 r0c10_2)∧∃(r0c11a_2:Option Addr) (r0c11n_2 r0c11c_2:Nat),H67.cell ⟨x6b,11,none⟩=some (Value.slice r0c11a_2 r0c11n_2 r0c11c_2)∧∃(r0c12a_2:Option Addr) (r0c12n_2 r0c12c_2:Nat),H67.cell ⟨x6b,12,none⟩=some (Value.slice r0c12a_2 r0c12n_2 r0c12c_2)∧∃r2c0_2:Int,H67.cell ⟨x8b,0,none⟩=some (Value.int .i64 r2c0_2)∧∃r2c1_2:Int,H67.cell ⟨x8b,1,none⟩=some (Value.int .i64 r2c1_2)∧∃(r2c2a_2:Option Addr) (r2c2n_2 r2c2c_2:Nat),H67.cell ⟨x8b,2,none⟩=some (Value.slice r2c2a_2 r2c2n_2 r2c2c_2)∧R (Value.tuple ⟨[(Value.agg ⟨[(Value.int .i64 r0c0_2),(Value.slice r0c1a_2 r0c1n_2 r0c1c_2),(Value.int .u32 r0c2_2),(Value.bool r0c3_2),(Value.int .u32 r0c4_2),(Value.bool r0c5_2),(Value.int .u32 r0c6_2),(Value.bool r0c7_2),(Value.bool r0c8_2),(Value.int .u32 r0c9_2),(Value.int .u32 r0c10_2),(Value.slice r0c11a_2 r0c11n_2 r0c11c_2),(Value.slice r0c12a_2 r0c12n_2 r0c12c_2)]⟩),(Value.int .i64 3),(Value.agg ⟨[(Value.int .i64 r2c0_2),(Value.int .i64 r2c1_2),(Value.slice r2c2a_2 r2c2n_2 r2c2c_2)]⟩)]⟩) H67)
 (∃x40:Int,H50.cell ⟨p10b,3,none⟩=some (Value.int .i64 x40)∧
 InC x40 b0n_1 fun x41l=>
 next2 (((if b0c_1=x41l then b0a_1 else Option.map (fun a=>Addr.add a (x41l*1)) b0a_1),b0n_1 - x41l,b0c_1 - x41l),()) H50)))
 (Zbba told2 x6b x8b x14b next2 H4 R)
def Zclv (b0a:Option Addr) (b0n:Nat) (b0c:Nat) (four1:Bool) (told2:Bool) (H:Heap) (R:Value->Heap->Prop):Prop:=
 NewW H (Obj.cells ⟨[(Value.int .i64 0),(Value.slice none 0 0),(Value.int .u32 0),(Value.bool false),(Value.int .u32 0),(Value.bool false),(Value.int .u32 0),(Value.bool false),(Value.bool false),(Value.int .u32 0),(Value.int .u32 0),(Value.slice none 0 0),(Value.slice none 0 0)]⟩ Zhr) fun x6b H1=>
 NewW H1 (Obj.cells ⟨[(Value.int .i64 0),(Value.int .i64 0),(Value.slice none 0 0)]⟩ Zjq) fun x8b H2=>
 NewW H2 (Obj.cells ⟨(setL Zbmz 13 [(Value.bool four1)])⟩ Zea) fun x14b H3=>
 Zil ((Option Addr×Nat×Nat)×Unit) ((b0a,b0n,b0c),()) H3 fun x H next=>∀_g:Env,Zbsh told2 x6b x8b x14b x.1.1 x.1.2.1 x.1.2.2 H next R
theorem Zdmk (b0a:Option Addr) (b0n:Nat) (b0c:Nat) (four1:Bool) (told2:Bool) (H:Heap) (R:Value->Heap->Prop):Zclv b0a b0n b0c four1 told2 H R=Zd Tryz.prog Zcea (Zg Tryz.f27) (env0 [(Value.slice b0a b0n b0c),(Value.bool four1),(Value.bool told2)]) H (RetW Tryz.prog Tryz.f27.results.toList R):=by kernel_rfl
theorem Zcrc (b0a:Option Addr) (b0n:Nat) (b0c:Nat) (four1:Bool) (told2:Bool) {H:Heap} {R:Value->Heap->Prop} (h:Zclv b0a b0n b0c four1 told2 H fun v H1=>∀H2,Shut H H1 H2->R v H2):FnW Tryz.prog Znr ⟨[(Value.slice b0a b0n b0c),(Value.bool four1),(Value.bool told2)]⟩ H R:=FnW.of_code Zddu (by kernel_rfl) (Eq.mp (Zdmk b0a b0n b0c four1 told2 H _) h)
def Zclh:Plan:=⟨[],[],[],[]⟩
theorem Zcud:Known Tryz.prog Zht Tryz.f54 Zclh (Zg Tryz.f54):=by refine ⟨Tryz.func54,?_,?_,?_,?_,?_⟩<;>kernel_rfl
def Zbwe (r0b:Nat) (worth1:Int) (H:Heap) (R:Value->Heap->Prop):Prop:=
 ∃x8:Int,H.cell ⟨r0b,14,none⟩=some (Value.int .i64 x8)∧
 Zc H ⟨r0b,14,none⟩ (Value.int .i64 (max x8 worth1)) fun H1=>
 R (Value.tuple ⟨[]⟩) H1
theorem Zdef (r0b:Nat) (worth1:Int) (H:Heap) (R:Value->Heap->Prop):Zbwe r0b worth1 H R=Zd Tryz.prog Zclh (Zg Tryz.f54) (env0 [(Value.pointer (some ⟨r0b,0,none⟩)),(Value.int .i64 worth1)]) H (RetW Tryz.prog Tryz.f54.results.toList R):=by kernel_rfl
theorem Zczn (r0b:Nat) (worth1:Int) {H:Heap} {R:Value->Heap->Prop} (h:Zbwe r0b worth1 H fun v H1=>∀H2,Shut H H1 H2->R v H2):FnW Tryz.prog Zht ⟨[(Value.pointer (some ⟨r0b,0,none⟩)),(Value.int .i64 worth1)]⟩ H R:=FnW.of_code Zcud (by kernel_rfl) (Eq.mp (Zdef r0b worth1 H _) h)
def Zbrn:Plan:=⟨[],[],[],[]⟩
theorem Zdgg:Known Tryz.prog Ztn Tryz.f55 Zbrn (Zg Tryz.f55):=by refine ⟨Tryz.func55,?_,?_,?_,?_,?_⟩<;>kernel_rfl
def Zbuf (H8:Heap) (R:Value->Heap->Prop):Prop:=
 R (Value.bool true) H8
def Zbsj (r0b:Nat) (x74:Bool) (H12:Heap) (R:Value->Heap->Prop):Prop:=
 IfB (!x74)
 (FnW Tryz.prog Zht ⟨[(Value.pointer (some ⟨r0b,0,none⟩)),(Value.int .i64 1)]⟩ H12 fun x77v H13=>
 x77v=(Value.tuple ⟨[]⟩)∧
 R (Value.bool true) H13)
 (R (Value.bool true) H12)
def Zcii (r0b:Nat) (x63:Bool) (H15:Heap) (R:Value->Heap->Prop):Prop:=
 IfB (!x63)
 (FnW Tryz.prog Zht ⟨[(Value.pointer (some ⟨r0b,0,none⟩)),(Value.int .i64 2)]⟩ H15 fun x66v H16=>
 x66v=(Value.tuple ⟨[]⟩)∧
 R (Value.bool true) H16)
 (R (Value.bool true) H15)
def Zkj (r0b:Nat) (p3b:Nat) (x67:Bool) (H10:Heap) (R:Value->Heap->Prop):Prop:=
 IfB x67
 (∃x73c0:Int,H10.cell ⟨p3b,0,none⟩=some (Value.int .u8 x73c0)∧∃x73c1:Int,H10.cell ⟨p3b,1,none⟩=some (Value.int .i64 x73c1)∧∃(x73c2a:Option Addr) (x73c2n x73c2c:Nat),H10.cell ⟨p3b,2,none⟩=some (Value.slice x73c2a x73c2n x73c2c)∧∃x73c3:Int,H10.cell ⟨p3b,3,none⟩=some (Value.int .i64 x73c3)∧FnW Tryz.prog Zvt ⟨[(Value.pointer (some ⟨r0b,0,none⟩)),(Value.agg ⟨[(Value.int .u8 x73c0),(Value.int .i64 x73c1),(Value.slice x73c2a x73c2n x73c2c),(Value.int .i64 x73c3)]⟩)]⟩ H10 fun x74v H11=>
 ∃x74:Bool,x74v=(Value.bool x74)∧
 Zbsj r0b x74 H11 R)
 (∃x62c0:Int,H10.cell ⟨p3b,0,none⟩=some (Value.int .u8 x62c0)∧∃x62c1:Int,H10.cell ⟨p3b,1,none⟩=some (Value.int .i64 x62c1)∧∃(x62c2a:Option Addr) (x62c2n x62c2c:Nat),H10.cell ⟨p3b,2,none⟩=some (Value.slice x62c2a x62c2n x62c2c)∧∃x62c3:Int,H10.cell ⟨p3b,3,none⟩=some (Value.int .i64 x62c3)∧FnW Tryz.prog Zzb ⟨[(Value.pointer (some ⟨r0b,0,none⟩)),(Value.agg ⟨[(Value.int .u8 x62c0),(Value.int .i64 x62c1),(Value.slice x62c2a x62c2n x62c2c),(Value.int .i64 x62c3)]⟩)]⟩ H10 fun x63v H14=>
 ∃x63:Bool,x63v=(Value.bool x63)∧
 Zcii r0b x63 H14 R)
def Zbbr (r0b:Nat) (p3b:Nat) (x25r0:Int) (x25r1:Bool) (x37:Bool) (H6:Heap) (R:Value->Heap->Prop):Prop:=
 IfB x37
 (∃x55c0:Int,H6.cell ⟨p3b,0,none⟩=some (Value.int .u8 x55c0)∧∃x55c1:Int,H6.cell ⟨p3b,1,none⟩=some (Value.int .i64 x55c1)∧∃(x55c2a:Option Addr) (x55c2n x55c2c:Nat),H6.cell ⟨p3b,2,none⟩=some (Value.slice x55c2a x55c2n x55c2c)∧∃x55c3:Int,H6.cell ⟨p3b,3,none⟩=some (Value.int .i64 x55c3)∧FnW Tryz.prog Zbfj ⟨[(Value.pointer (some ⟨r0b,0,none⟩)),(Value.agg ⟨[(Value.int .u8 x55c0),(Value.int .i64 x55c1),(Value.slice x55c2a x55c2n x55c2c),(Value.int .i64 x55c3)]⟩)]⟩ H6 fun x56v H7=>
 x56v=(Value.tuple ⟨[]⟩)∧
 Zbuf H7 R)
 (IfB (!x25r1)
 (Zbuf H6 R)
 (∃x52:Int,H6.cell ⟨p3b,0,none⟩=some (Value.int .u8 x52)∧
 IfB ((x25r0:Int) !=x52)
 (FnW Tryz.prog Zht ⟨[(Value.pointer (some ⟨r0b,0,none⟩)),(Value.int .i64 2)]⟩ H6 fun x58v H9=>
 x58v=(Value.tuple ⟨[]⟩)∧
 R (Value.bool true) H9)
 (∃x60:Int,H6.cell ⟨p3b,1,none⟩=some (Value.int .i64 x60)∧
 IfB ((x60:Int)==6)
 (Zkj r0b p3b ((x60:Int)==6) H6 R)
 (IfB ((x60:Int)==7)
 (Zkj r0b p3b ((x60:Int)==7) H6 R)
 (IfB ((x60:Int)==17)
 (Zkj r0b p3b ((x60:Int)==17) H6 R)
 (Zkj r0b p3b ((x60:Int)==18) H6 R))))))
def Zbdk (r0b:Nat) (p3b:Nat) (x25r0:Int) (x25r1:Bool) (x28:Bool) (H5:Heap) (R:Value->Heap->Prop):Prop:=
 IfB x28
 (R (Value.bool false) H5)
 (IfB (!x25r1)
 (∃x42:Int,H5.cell ⟨p3b,0,none⟩=some (Value.int .u8 x42)∧
 Zbbr r0b p3b x25r0 x25r1 (((Zhq .u8 x42 64):Int) !=0) H5 R)
 (Zbbr r0b p3b x25r0 x25r1 false H5 R))
def Zcji (r0b:Nat) (p1c0:Int) (p1c1:Int) (p1c2a:Option Addr) (p1c2n:Nat) (p1c2c:Nat) (p1c3:Int) (H:Heap) (R:Value->Heap->Prop):Prop:=
 NewW H (Obj.cells ⟨[(Value.int .u8 p1c0),(Value.int .i64 p1c1),(Value.slice p1c2a p1c2n p1c2c),(Value.int .i64 p1c3)]⟩ Zkh) fun p3b H1=>
 ∃x9:Int,H1.cell ⟨p3b,1,none⟩=some (Value.int .i64 x9)∧
 InB x9 256 fun x12i=>
 ∃x13:Bool,H1.cell ⟨r0b,15+x12i*1,none⟩=some (Value.bool x13)∧
 IfB x13
 (FnW Tryz.prog Zht ⟨[(Value.pointer (some ⟨r0b,0,none⟩)),(Value.int .i64 1)]⟩ H1 fun x15v H2=>
 x15v=(Value.tuple ⟨[]⟩)∧
 R (Value.bool true) H2)
 (∃x18:Int,H1.cell ⟨p3b,1,none⟩=some (Value.int .i64 x18)∧
 InB x18 256 fun x21i=>
 Zc H1 ⟨r0b,15+x21i*1,none⟩ (Value.bool true) fun H3=>
 ∃x24:Int,H3.cell ⟨p3b,1,none⟩=some (Value.int .i64 x24)∧
 FnW Tryz.prog Zmc ⟨[(Value.int .i64 x24)]⟩ H3 fun x25v H4=>
 ∃x25r0:Int,∃x25r1:Bool,x25v=(Value.tuple ⟨[(Value.int .u8 x25r0),(Value.bool x25r1)]⟩)∧
 IfB (!x25r1)
 (∃x33:Int,H4.cell ⟨p3b,0,none⟩=some (Value.int .u8 x33)∧
 Zbdk r0b p3b x25r0 x25r1 (((Zhq .u8 x33 128):Int)==0) H4 R)
 (Zbdk r0b p3b x25r0 x25r1 false H4 R))
theorem Zdio (r0b:Nat) (p1c0:Int) (p1c1:Int) (p1c2a:Option Addr) (p1c2n:Nat) (p1c2c:Nat) (p1c3:Int) (H:Heap) (R:Value->Heap->Prop):Zcji r0b p1c0 p1c1 p1c2a p1c2n p1c2c p1c3 H R=Zd Tryz.prog Zbrn (Zg Tryz.f55) (env0 [(Value.pointer (some ⟨r0b,0,none⟩)),(Value.agg ⟨[(Value.int .u8 p1c0),(Value.int .i64 p1c1),(Value.slice p1c2a p1c2n p1c2c),(Value.int .i64 p1c3)]⟩)]) H (RetW Tryz.prog Tryz.f55.results.toList R):=by kernel_rfl
theorem Zcsq (r0b:Nat) (p1c0:Int) (p1c1:Int) (p1c2a:Option Addr) (p1c2n:Nat) (p1c2c:Nat) (p1c3:Int) {H:Heap} {R:Value->Heap->Prop} (h:Zcji r0b p1c0 p1c1 p1c2a p1c2n p1c2c p1c3 H fun v H1=>∀H2,Shut H H1 H2->R v H2):FnW Tryz.prog Ztn ⟨[(Value.pointer (some ⟨r0b,0,none⟩)),(Value.agg ⟨[(Value.int .u8 p1c0),(Value.int .i64 p1c1),(Value.slice p1c2a p1c2n p1c2c),(Value.int .i64 p1c3)]⟩)]⟩ H R:=FnW.of_code Zdgg (by kernel_rfl) (Eq.mp (Zdio r0b p1c0 p1c1 p1c2a p1c2n p1c2c p1c3 H _) h)
def Zcff:Plan:=⟨[(2,[0,1,2,3,4,5,7,8,9,10,11,6,12,13,14,15,16,17,18,19,20],[1000000,38])],[],[],[]⟩
theorem Zdje:Known Tryz.prog Zzs Tryz.f56 Zcff (Zg Tryz.f56):=by refine ⟨Tryz.func56,?_,?_,?_,?_,?_⟩<;>kernel_rfl
def Zbcu (r0b:Nat) (H7:Heap) (R:Value->Heap->Prop):Prop:=
 ∃x50:Bool,H7.cell ⟨r0b,273,none⟩=some (Value.bool x50)∧
 IfB (!x50)
 (R (Value.tuple ⟨[]⟩) H7)
 (∃(x56a:Option Addr) (x56n x56c:Nat),H7.cell ⟨r0b,1,none⟩=some (Value.slice x56a x56n x56c)∧
 ∃(x60a:Option Addr) (x60n x60c:Nat),H7.cell ⟨r0b,271,none⟩=some (Value.slice x60a x60n x60c)∧
 FnW Tryz.prog Zbge ⟨[(Value.slice x56a x56n x56c),(Value.slice x60a x60n x60c)]⟩ H7 fun x61v H8=>
 ∃(x61a:Option Addr) (x61n x61c:Nat),x61v=(Value.slice x61a x61n x61c)∧
 FnW Tryz.prog Zle ⟨[(Value.slice x61a x61n x61c)]⟩ H8 fun x63v H9=>
 ∃x63:Int,x63v=(Value.int .i64 x63)∧
 IfB ((x63:Int)==0)
 (Zc H9 ⟨r0b,1,none⟩ (Value.slice x61a x61n x61c) fun H10=>
 R (Value.tuple ⟨[]⟩) H10)
 (R (Value.tuple ⟨[]⟩) H9))
def Zqt (r0b:Nat) (x27:Bool) (H2:Heap) (R:Value->Heap->Prop):Prop:=
 IfB x27
 (∃bs:List Nat,(∀b∈bs,∃o,H2 b=some o)∧
 ∃(x33a:Option Addr) (x33n x33c:Nat),H2.cell ⟨r0b,272,none⟩=some (Value.slice x33a x33n x33c)∧
 r0b∈bs∧∃(x38a:Option Addr) (x38n x38c:Nat),H2.cell ⟨r0b,272,none⟩=some (Value.slice x38a x38n x38c)∧
 InC 4 x38n fun x39l=>
 FnW Tryz.prog Zhc ⟨[(Value.slice x33a x33n x33c)]⟩ H2 fun x34v H3=>
 ∃x34:Int,x34v=(Value.int .u32 x34)∧
 Zes bs H2 H3∧FnW Tryz.prog Zhc ⟨[(Value.slice (if x38c=x39l then x38a else Option.map (fun a=>Addr.add a (x39l*1)) x38a) (x38n - x39l) (x38c - x39l))]⟩ H3 fun x40v H4=>
 ∃x40:Int,x40v=(Value.int .u32 x40)∧
 Zes bs H2 H4∧Zc H4 ⟨r0b,9,none⟩ (Value.int .u32 x34) fun H5=>
 Zc H5 ⟨r0b,10,none⟩ (Value.int .u32 x40) fun H6=>
 Zbcu r0b H6 R)
 (Zbcu r0b H2 R)
def Zwk (r0b:Nat) (x15:Bool) (H1:Heap) (R:Value->Heap->Prop):Prop:=
 IfB x15
 (R (Value.tuple ⟨[]⟩) H1)
 (∃x20:Bool,H1.cell ⟨r0b,8,none⟩=some (Value.bool x20)∧
 IfB x20
 (∃(x25a:Option Addr) (x25n x25c:Nat),H1.cell ⟨r0b,272,none⟩=some (Value.slice x25a x25n x25c)∧
 Zqt r0b (!x25a.isNone) H1 R)
 (Zqt r0b false H1 R))
def Zbtn (r0b:Nat) (H:Heap) (R:Value->Heap->Prop):Prop:=
 ∃x7:Bool,H.cell ⟨r0b,8,none⟩=some (Value.bool x7)∧
 IfB x7
 (∃x13:Int,H.cell ⟨r0b,9,none⟩=some (Value.int .u32 x13)∧
 Zwk r0b ((x13:Int) !=23456) H R)
 (Zwk r0b false H R)
theorem Zdke (r0b:Nat) (H:Heap) (R:Value->Heap->Prop):Zbtn r0b H R=Zd Tryz.prog Zcff (Zg Tryz.f56) (env0 [(Value.pointer (some ⟨r0b,0,none⟩))]) H (RetW Tryz.prog Tryz.f56.results.toList R):=by kernel_rfl
theorem Zcxl (r0b:Nat) {H:Heap} {R:Value->Heap->Prop} (h:Zbtn r0b H fun v H1=>∀H2,Shut H H1 H2->R v H2):FnW Tryz.prog Zzs ⟨[(Value.pointer (some ⟨r0b,0,none⟩))]⟩ H R:=FnW.of_code Zdje (by kernel_rfl) (Eq.mp (Zdke r0b H _) h)
def Zccb:Plan:=⟨[(6,[0,1,2,3,4,5,6,7,8,9,10,11,12,13,14,15,16,17,18],[40,43])],[],[],[]⟩
theorem Zdfo:Known Tryz.prog Zbfj Tryz.f81 Zccb (Zg Tryz.f81):=by refine ⟨Tryz.func81,?_,?_,?_,?_,?_⟩<;>kernel_rfl
def Zbfu (r0b:Nat) (p3b:Nat) (k4:Int) (H5:Heap) (R:Value->Heap->Prop):Prop:=
 ∃bs:List Nat,(∀b∈bs,∃o,H5 b=some o)∧
 r0b∈bs∧∃(x40a:Option Addr) (x40n x40c:Nat),H5.cell ⟨r0b,12,none⟩=some (Value.slice x40a x40n x40c)∧
 p3b∈bs∧∃x43:Int,H5.cell ⟨p3b,1,none⟩=some (Value.int .i64 x43)∧
 ∃(x45a:Option Addr) (x45n x45c:Nat),H5.cell ⟨p3b,2,none⟩=some (Value.slice x45a x45n x45c)∧
 FnW Tryz.prog Zlp ⟨[(Value.slice x45a x45n x45c)]⟩ H5 fun x46v H6=>
 ∃(x46a:Option Addr) (x46n x46c:Nat),x46v=(Value.slice x46a x46n x46c)∧
 Zes bs H5 H6∧NewW H6 (Obj.cells ⟨[(Value.int .i64 x43),(Value.slice x46a x46n x46c)]⟩ Zcl) fun x48b H7=>
 FnW Tryz.prog Zben ⟨[(Value.slice x40a x40n x40c),(Value.int .i64 k4),(Value.slice (some ⟨x48b,0,none⟩) 1 1)]⟩ H7 fun x49v H8=>
 ∃(x49a:Option Addr) (x49n x49c:Nat),x49v=(Value.slice x49a x49n x49c)∧
 Zes bs H5 H8∧Zc H8 ⟨r0b,12,none⟩ (Value.slice x49a x49n x49c) fun H9=>
 R (Value.tuple ⟨[]⟩) H9
def Zrf (r0b:Nat) (p3b:Nat) (x17:Bool) (H2:Heap) (R:Value->Heap->Prop):Prop:=
 IfB x17
 (FnW Tryz.prog Zht ⟨[(Value.pointer (some ⟨r0b,0,none⟩)),(Value.int .i64 1)]⟩ H2 fun x19v H3=>
 x19v=(Value.tuple ⟨[]⟩)∧
 R (Value.tuple ⟨[]⟩) H3)
 (∃(x24a:Option Addr) (x24n x24c:Nat),H2.cell ⟨r0b,12,none⟩=some (Value.slice x24a x24n x24c)∧
 FnW Tryz.prog Zbbc ⟨[(Value.slice x24a x24n x24c),(Value.func (.func Zsk) #[] #[(Value.pointer (some ⟨p3b,0,none⟩))])]⟩ H2 fun x26v H4=>
 ∃x26:Int,x26v=(Value.int .i64 x26)∧
 IfB (decide ((x26:Int)<0))
 (∃(x33a:Option Addr) (x33n x33c:Nat),H4.cell ⟨r0b,12,none⟩=some (Value.slice x33a x33n x33c)∧
 Zbfu r0b p3b (x33n:Int) H4 R)
 (Zbfu r0b p3b x26 H4 R))
def Zcjg (r0b:Nat) (p1c0:Int) (p1c1:Int) (p1c2a:Option Addr) (p1c2n:Nat) (p1c2c:Nat) (p1c3:Int) (H:Heap) (R:Value->Heap->Prop):Prop:=
 NewW H (Obj.cells ⟨[(Value.int .u8 p1c0),(Value.int .i64 p1c1),(Value.slice p1c2a p1c2n p1c2c),(Value.int .i64 p1c3)]⟩ Zkh) fun p3b H1=>
 ∃(x9a:Option Addr) (x9n x9c:Nat),H1.cell ⟨r0b,12,none⟩=some (Value.slice x9a x9n x9c)∧
 IfB (decide (((x9n:Int):Int)≥8))
 (Zrf r0b p3b true H1 R)
 (∃(x14a:Option Addr) (x14n x14c:Nat),H1.cell ⟨p3b,2,none⟩=some (Value.slice x14a x14n x14c)∧
 Zrf r0b p3b (decide (((x14n:Int):Int)>255)) H1 R)
theorem Zcrg (r0b:Nat) (p1c0:Int) (p1c1:Int) (p1c2a:Option Addr) (p1c2n:Nat) (p1c2c:Nat) (p1c3:Int) (H:Heap) (R:Value->Heap->Prop):Zcjg r0b p1c0 p1c1 p1c2a p1c2n p1c2c p1c3 H R=Zd Tryz.prog Zccb (Zg Tryz.f81) (env0 [(Value.pointer (some ⟨r0b,0,none⟩)),(Value.agg ⟨[(Value.int .u8 p1c0),(Value.int .i64 p1c1),(Value.slice p1c2a p1c2n p1c2c),(Value.int .i64 p1c3)]⟩)]) H (RetW Tryz.prog Tryz.f81.results.toList R):=by kernel_rfl
theorem Zcog (r0b:Nat) (p1c0:Int) (p1c1:Int) (p1c2a:Option Addr) (p1c2n:Nat) (p1c2c:Nat) (p1c3:Int) {H:Heap} {R:Value->Heap->Prop} (h:Zcjg r0b p1c0 p1c1 p1c2a p1c2n p1c2c p1c3 H fun v H1=>∀H2,Shut H H1 H2->R v H2):FnW Tryz.prog Zbfj ⟨[(Value.pointer (some ⟨r0b,0,none⟩)),(Value.agg ⟨[(Value.int .u8 p1c0),(Value.int .i64 p1c1),(Value.slice p1c2a p1c2n p1c2c),(Value.int .i64 p1c3)]⟩)]⟩ H R:=FnW.of_code Zdfo (by kernel_rfl) (Eq.mp (Zcrg r0b p1c0 p1c1 p1c2a p1c2n p1c2c p1c3 H _) h)
def Zbwy:Plan:=⟨[],[],[],[]⟩
theorem Zdfg:Known Tryz.prog Zvt Tryz.f82 Zbwy (Zg Tryz.f82):=by refine ⟨Tryz.func82,?_,?_,?_,?_,?_⟩<;>kernel_rfl
def Zceo (r0b:Nat) (x9a:Option Addr) (x9n:Nat) (x9c:Nat) (x60:Bool) (H7:Heap) (R:Value->Heap->Prop):Prop:=
 IfB x60
 (R (Value.bool false) H7)
 (Zc H7 ⟨r0b,272,none⟩ (Value.slice x9a x9n x9c) fun H8=>
 R (Value.bool true) H8)
def Zceq (r0b:Nat) (p1c0:Int) (p1c1:Int) (p1c2a:Option Addr) (p1c2n:Nat) (p1c2c:Nat) (p1c3:Int) (H:Heap) (R:Value->Heap->Prop):Prop:=
 NewW H (Obj.cells ⟨[(Value.int .u8 p1c0),(Value.int .i64 p1c1),(Value.slice p1c2a p1c2n p1c2c),(Value.int .i64 p1c3)]⟩ Zkh) fun p3b H1=>
 ∃(x9a:Option Addr) (x9n x9c:Nat),H1.cell ⟨p3b,2,none⟩=some (Value.slice x9a x9n x9c)∧
 ∃x11:Int,H1.cell ⟨p3b,1,none⟩=some (Value.int .i64 x11)∧
 IfB ((x11:Int)==6)
 (Zc H1 ⟨r0b,7,none⟩ (Value.bool (((x9n:Int):Int)==0)) fun H2=>
 ∃x25:Bool,H2.cell ⟨r0b,7,none⟩=some (Value.bool x25)∧
 R (Value.bool x25) H2)
 (IfB ((x11:Int)==7)
 (FnW Tryz.prog Zwo ⟨[(Value.pointer (some ⟨r0b,0,none⟩)),(Value.slice x9a x9n x9c)]⟩ H1 fun x30v H3=>
 ∃x30:Bool,x30v=(Value.bool x30)∧
 R (Value.bool x30) H3)
 (IfB ((x11:Int)==17)
 (∃x36:Bool,H1.cell ⟨r0b,13,none⟩=some (Value.bool x36)∧
 IfB x36
 (R (Value.bool true) H1)
 (FnW Tryz.prog Zun ⟨[(Value.slice x9a x9n x9c),(Value.bool true)]⟩ H1 fun x39v H4=>
 ∃(x39r0a:Option Addr) (x39r0n x39r0c:Nat),∃x39r1:Int,x39v=(Value.tuple ⟨[(Value.slice x39r0a x39r0n x39r0c),(Value.int .i64 x39r1)]⟩)∧
 Zc H4 ⟨r0b,271,none⟩ (Value.slice x39r0a x39r0n x39r0c) fun H5=>
 Zc H5 ⟨r0b,273,none⟩ (Value.bool ((x39r1:Int)==0)) fun H6=>
 ∃x54:Bool,H6.cell ⟨r0b,273,none⟩=some (Value.bool x54)∧
 R (Value.bool x54) H6))
 (∃x59:Bool,H1.cell ⟨r0b,13,none⟩=some (Value.bool x59)∧
 IfB x59
 (R (Value.bool true) H1)
 (IfB (((x9n:Int):Int) !=8)
 (Zceo r0b x9a x9n x9c true H1 R)
 (FnW Tryz.prog Zhc ⟨[(Value.slice x9a x9n x9c)]⟩ H1 fun x66v H9=>
 ∃x66:Int,x66v=(Value.int .u32 x66)∧
 Zceo r0b x9a x9n x9c ((x66:Int)==0) H9 R)))))
theorem Zdkp (r0b:Nat) (p1c0:Int) (p1c1:Int) (p1c2a:Option Addr) (p1c2n:Nat) (p1c2c:Nat) (p1c3:Int) (H:Heap) (R:Value->Heap->Prop):Zceq r0b p1c0 p1c1 p1c2a p1c2n p1c2c p1c3 H R=Zd Tryz.prog Zbwy (Zg Tryz.f82) (env0 [(Value.pointer (some ⟨r0b,0,none⟩)),(Value.agg ⟨[(Value.int .u8 p1c0),(Value.int .i64 p1c1),(Value.slice p1c2a p1c2n p1c2c),(Value.int .i64 p1c3)]⟩)]) H (RetW Tryz.prog Tryz.f82.results.toList R):=by kernel_rfl
theorem Zcmu (r0b:Nat) (p1c0:Int) (p1c1:Int) (p1c2a:Option Addr) (p1c2n:Nat) (p1c2c:Nat) (p1c3:Int) {H:Heap} {R:Value->Heap->Prop} (h:Zceq r0b p1c0 p1c1 p1c2a p1c2n p1c2c p1c3 H fun v H1=>∀H2,Shut H H1 H2->R v H2):FnW Tryz.prog Zvt ⟨[(Value.pointer (some ⟨r0b,0,none⟩)),(Value.agg ⟨[(Value.int .u8 p1c0),(Value.int .i64 p1c1),(Value.slice p1c2a p1c2n p1c2c),(Value.int .i64 p1c3)]⟩)]⟩ H R:=FnW.of_code Zdfg (by kernel_rfl) (Eq.mp (Zdkp r0b p1c0 p1c1 p1c2a p1c2n p1c2c p1c3 H _) h)
def Zchr:Plan:=⟨[],[],[],[]⟩
theorem Zdjs:Known Tryz.prog Zzb Tryz.f83 Zchr (Zg Tryz.f83):=by refine ⟨Tryz.func83,?_,?_,?_,?_,?_⟩<;>kernel_rfl
def Zbjp (r0b:Nat) (x9a:Option Addr) (x9n:Nat) (x9c:Nat) (x22:Bool) (H2:Heap) (R:Value->Heap->Prop):Prop:=
 IfB x22
 (R (Value.bool false) H2)
 (NilP x9a fun x25q=>
 InB 0 x9n fun x25i=>
 elemAt x25q x25i 1 fun x25p=>
 ∃x26:Int,H2.cell x25p=some (Value.int .u8 x26)∧
 Zc H2 ⟨r0b,0,none⟩ (Value.int .i64 (IntKind.wrap .i64 x26)) fun H3=>
 R (Value.bool true) H3)
def Zblv (r0b:Nat) (x9a:Option Addr) (x9n:Nat) (x9c:Nat) (x59:Bool) (H6:Heap) (R:Value->Heap->Prop):Prop:=
 IfB x59
 (R (Value.bool false) H6)
 (FnW Tryz.prog Zhc ⟨[(Value.slice x9a x9n x9c)]⟩ H6 fun x62v H7=>
 ∃x62:Int,x62v=(Value.int .u32 x62)∧
 Zc H7 ⟨r0b,2,none⟩ (Value.int .u32 x62) fun H8=>
 R (Value.bool true) H8)
def Zcdq (r0b:Nat) (p1c0:Int) (p1c1:Int) (p1c2a:Option Addr) (p1c2n:Nat) (p1c2c:Nat) (p1c3:Int) (H:Heap) (R:Value->Heap->Prop):Prop:=
 NewW H (Obj.cells ⟨[(Value.int .u8 p1c0),(Value.int .i64 p1c1),(Value.slice p1c2a p1c2n p1c2c),(Value.int .i64 p1c3)]⟩ Zkh) fun p3b H1=>
 ∃(x9a:Option Addr) (x9n x9c:Nat),H1.cell ⟨p3b,2,none⟩=some (Value.slice x9a x9n x9c)∧
 ∃x11:Int,H1.cell ⟨p3b,1,none⟩=some (Value.int .i64 x11)∧
 IfB ((x11:Int)==1)
 (IfB (((x9n:Int):Int) !=1)
 (Zbjp r0b x9a x9n x9c true H1 R)
 (NilP x9a fun x19q=>
 InB 0 x9n fun x19i=>
 elemAt x19q x19i 1 fun x19p=>
 ∃x20:Int,H1.cell x19p=some (Value.int .u8 x20)∧
 Zbjp r0b x9a x9n x9c (decide ((x20:Int)>2)) H1 R))
 (IfB ((x11:Int)==2)
 (∃x38:Bool,H1.cell ⟨r0b,13,none⟩=some (Value.bool x38)∧
 FnW Tryz.prog Zun ⟨[(Value.slice x9a x9n x9c),(Value.bool x38)]⟩ H1 fun x39v H4=>
 ∃(x39r0a:Option Addr) (x39r0n x39r0c:Nat),∃x39r1:Int,x39v=(Value.tuple ⟨[(Value.slice x39r0a x39r0n x39r0c),(Value.int .i64 x39r1)]⟩)∧
 Zc H4 ⟨r0b,1,none⟩ (Value.slice x39r0a x39r0n x39r0c) fun H5=>
 R (Value.bool ((x39r1:Int)==0)) H5)
 (IfB ((x11:Int)==3)
 (IfB (((x9n:Int):Int) !=4)
 (Zblv r0b x9a x9n x9c true H1 R)
 (FnW Tryz.prog Zhc ⟨[(Value.slice x9a x9n x9c)]⟩ H1 fun x56v H9=>
 ∃x56:Int,x56v=(Value.int .u32 x56)∧
 FnW Tryz.prog Zoe ⟨[(Value.int .u32 x56)]⟩ H9 fun x57v H10=>
 ∃x57:Bool,x57v=(Value.bool x57)∧
 Zblv r0b x9a x9n x9c (!x57) H10 R))
 (IfB ((x11:Int)==4)
 (IfB (((x9n:Int):Int) !=4)
 (R (Value.bool false) H1)
 (FnW Tryz.prog Zhc ⟨[(Value.slice x9a x9n x9c)]⟩ H1 fun x74v H11=>
 ∃x74:Int,x74v=(Value.int .u32 x74)∧
 Zc H11 ⟨r0b,3,none⟩ (Value.bool true) fun H12=>
 Zc H12 ⟨r0b,4,none⟩ (Value.int .u32 x74) fun H13=>
 R (Value.bool true) H13))
 (IfB ((x11:Int)==8)
 (FnW Tryz.prog Zbnp ⟨[(Value.pointer (some ⟨r0b,0,none⟩)),(Value.slice x9a x9n x9c)]⟩ H1 fun x85v H14=>
 ∃x85:Bool,x85v=(Value.bool x85)∧
 R (Value.bool x85) H14)
 (R (Value.bool true) H1)))))
theorem Zczx (r0b:Nat) (p1c0:Int) (p1c1:Int) (p1c2a:Option Addr) (p1c2n:Nat) (p1c2c:Nat) (p1c3:Int) (H:Heap) (R:Value->Heap->Prop):Zcdq r0b p1c0 p1c1 p1c2a p1c2n p1c2c p1c3 H R=Zd Tryz.prog Zchr (Zg Tryz.f83) (env0 [(Value.pointer (some ⟨r0b,0,none⟩)),(Value.agg ⟨[(Value.int .u8 p1c0),(Value.int .i64 p1c1),(Value.slice p1c2a p1c2n p1c2c),(Value.int .i64 p1c3)]⟩)]) H (RetW Tryz.prog Tryz.f83.results.toList R):=by kernel_rfl
theorem Zdon (r0b:Nat) (p1c0:Int) (p1c1:Int) (p1c2a:Option Addr) (p1c2n:Nat) (p1c2c:Nat) (p1c3:Int) {H:Heap} {R:Value->Heap->Prop} (h:Zcdq r0b p1c0 p1c1 p1c2a p1c2n p1c2c p1c3 H fun v H1=>∀H2,Shut H H1 H2->R v H2):FnW Tryz.prog Zzb ⟨[(Value.pointer (some ⟨r0b,0,none⟩)),(Value.agg ⟨[(Value.int .u8 p1c0),(Value.int .i64 p1c1),(Value.slice p1c2a p1c2n p1c2c),(Value.int .i64 p1c3)]⟩)]⟩ H R:=FnW.of_code Zdjs (by kernel_rfl) (Eq.mp (Zczx r0b p1c0 p1c1 p1c2a p1c2n p1c2c p1c3 H _) h)
def Zcci:Plan:=⟨[],[(8,[6,22],[.int .u32,.int .i64],[0,1,5,20,21])],[],[]⟩
theorem Zcxa:Known Tryz.prog Zwo Tryz.f103 Zcci (Zg Tryz.f103):=by refine ⟨Tryz.func103,?_,?_,?_,?_,?_⟩<;>kernel_rfl
def Zbth (r0b:Nat) (b1a:Option Addr) (b1n:Nat) (b1c:Nat) (n5:Int) (x20h:Nat) (as6:Int) (x22:Int) (H2:Heap) (next8:(Int×Int×Unit)->Heap->Prop) (R:Value->Heap->Prop):Prop:=
 IfB (decide ((x22:Int)<(x20h:Int)))
 (NilP b1a fun x24q=>
 InB x22 x20h fun x24i=>
 elemAt x24q x24i 1 fun x24p=>
 ∃x25:Int,H2.cell x24p=some (Value.int .u8 x25)∧
 (0:Int) <= 8∧
 next8 ((Zbz .u32 (IntKind.wrap .u32 (as6*2^(min (8:Int).toNat (IntKind.bits .u32)))) (IntKind.wrap .u32 x25)),((IntKind.wrap .i64 (x22+1)),())) H2)
 (IfB ((as6:Int)==0)
 (R (Value.bool false) H2)
 (InC n5 b1n fun x40l=>
 FnW Tryz.prog Zhc ⟨[(Value.slice (if b1c=x40l then b1a else Option.map (fun a=>Addr.add a (x40l*1)) b1a) (b1n - x40l) (b1c - x40l))]⟩ H2 fun x41v H3=>
 ∃x41:Int,x41v=(Value.int .u32 x41)∧
 Zc H3 ⟨r0b,8,none⟩ (Value.bool true) fun H4=>
 Zc H4 ⟨r0b,9,none⟩ (Value.int .u32 as6) fun H5=>
 Zc H5 ⟨r0b,10,none⟩ (Value.int .u32 x41) fun H6=>
 R (Value.bool true) H6))
def Zbht (r0b:Nat) (b1a:Option Addr) (b1n:Nat) (b1c:Nat) (n5:Int) (H1:Heap) (R:Value->Heap->Prop):Prop:=
 IfB (((b1n:Int):Int) !=(IntKind.wrap .i64 (n5+4)))
 (R (Value.bool false) H1)
 (InC n5 b1c fun x20h=>
 Zil (Int×Int×Unit) (0,(0,())) H1 fun x H next=>∀_g:Env,Zbth r0b b1a b1n b1c n5 x20h x.1 x.2.1 H next R)
def Zcan (r0b:Nat) (b1a:Option Addr) (b1n:Nat) (b1c:Nat) (H:Heap) (R:Value->Heap->Prop):Prop:=
 ∃x12:Bool,H.cell ⟨r0b,13,none⟩=some (Value.bool x12)∧
 IfB x12
 (Zbht r0b b1a b1n b1c 4 H R)
 (Zbht r0b b1a b1n b1c 2 H R)
theorem Zdcq (r0b:Nat) (b1a:Option Addr) (b1n:Nat) (b1c:Nat) (H:Heap) (R:Value->Heap->Prop):Zcan r0b b1a b1n b1c H R=Zd Tryz.prog Zcci (Zg Tryz.f103) (env0 [(Value.pointer (some ⟨r0b,0,none⟩)),(Value.slice b1a b1n b1c)]) H (RetW Tryz.prog Tryz.f103.results.toList R):=by kernel_rfl
theorem Zdpo (r0b:Nat) (b1a:Option Addr) (b1n:Nat) (b1c:Nat) {H:Heap} {R:Value->Heap->Prop} (h:Zcan r0b b1a b1n b1c H fun v H1=>∀H2,Shut H H1 H2->R v H2):FnW Tryz.prog Zwo ⟨[(Value.pointer (some ⟨r0b,0,none⟩)),(Value.slice b1a b1n b1c)]⟩ H R:=FnW.of_code Zcxa (by kernel_rfl) (Eq.mp (Zdcq r0b b1a b1n b1c H _) h)
end Go.Proofs.YthhcfdpoiganhaaGreat
end
section
set_option maxRecDepth 100000
namespace Go.Proofs.YthhcfdpoiganhaaGreat
open Go.Sh
def Zme:Plan:=⟨[(5,[0,1,2,3,4,5,6,7,8,9,10,11,12,13],[24,25,29])],[],[],[]⟩
theorem Zczq:Known Tryz.prog Zbnp Tryz.f105 Zme (Zg Tryz.f105):=by refine ⟨Tryz.func105,?_,?_,?_,?_,?_⟩<;>kernel_rfl
def Zbab:Plan:=⟨[],[],[],[]⟩
theorem Zcwn:Known Tryz.prog Znx Tryz.f116 Zbab (Zg Tryz.f116):=by refine ⟨Tryz.func116,?_,?_,?_,?_,?_⟩<;>kernel_rfl
def Zcma (r0b:Nat) (b1:Value) (H:Heap) (K:Value->Value->Heap->Prop) (R:Value->Heap->Prop):Prop:=
 NewW H (Obj.cells ⟨[(Value.pointer (some ⟨r0b,0,none⟩))]⟩ Zvr) fun r2b H1=>
 K b1 (Value.pointer (some ⟨r2b,0,none⟩)) H1
theorem Zdmr (ρ:Env) (r0b:Nat) (b1:Value) (H:Heap) (K:Value->Value->Heap->Prop) (R:Value->Heap->Prop):Zcma r0b b1 H K R=Zd Tryz.prog Zme (cL (Zg Tryz.f105)) (put (put ρ (some 0) (Value.pointer (some ⟨r0b,0,none⟩))) (some 1) b1) H (Zev (fun ρ H=>K (ρ 1) (ρ 2) H) (RetW Tryz.prog Tryz.f105.results.toList R)):=by kernel_rfl
def Zbgf (b1a:Option Addr) (b1n:Nat) (b1c:Nat) (r2:Value) (K:Value->Value->Heap->Prop) (x20:Bool) (H1:Heap) (R:Value->Heap->Prop):Prop:=
 IfB x20
 (R (Value.bool false) H1)
 (K (Value.slice b1a b1n b1c) r2 H1)
def Zbyc (b1a:Option Addr) (b1n:Nat) (b1c:Nat) (r2:Value) (H:Heap) (K:Value->Value->Heap->Prop) (R:Value->Heap->Prop):Prop:=
 IfB (((b1n:Int):Int)==0)
 (Zbgf b1a b1n b1c r2 K true H R)
 ((4:Int)≠0∧
 IfB (((Int.tmod (b1n:Int) 4):Int) !=0)
 (Zbgf b1a b1n b1c r2 K true H R)
 ((4:Int)≠0∧
 Zbgf b1a b1n b1c r2 K (decide (((IntKind.wrap .i64 (Int.tdiv (b1n:Int) 4)):Int)>32)) H R))
theorem Zddw (ρ:Env) (b1a:Option Addr) (b1n:Nat) (b1c:Nat) (r2:Value) (H:Heap) (K:Value->Value->Heap->Prop) (R:Value->Heap->Prop):Zbyc b1a b1n b1c r2 H K R=Zd Tryz.prog Zme (cL (cR (Zg Tryz.f105))) (put (put ρ (some 1) (Value.slice b1a b1n b1c)) (some 2) r2) H (Zev (fun ρ H=>K (ρ 1) (ρ 2) H) (RetW Tryz.prog Tryz.f105.results.toList R)):=by kernel_rfl
def Zdlc (b1a:Option Addr) (b1n:Nat) (b1c:Nat) (r2:Value) (H:Heap) (K:Value->Value->Heap->Prop) (R:Value->Heap->Prop):Prop:=
 FnW Tryz.prog Znx ⟨[(Value.slice b1a b1n b1c),(Value.int .i64 4)]⟩ H fun x22v H1=>
 ∃x22:Value,x22v=x22∧
 K r2 x22 H1
theorem Zdmm (ρ:Env) (b1a:Option Addr) (b1n:Nat) (b1c:Nat) (r2:Value) (H:Heap) (K:Value->Value->Heap->Prop) (R:Value->Heap->Prop):Zdlc b1a b1n b1c r2 H K R=Zd Tryz.prog Zme (cL (cL (cR (cR (Zg Tryz.f105))))) (put (put ρ (some 1) (Value.slice b1a b1n b1c)) (some 2) r2) H (Zev (fun ρ H=>K (ρ 2) (ρ 22) H) (RetW Tryz.prog Tryz.f105.results.toList R)):=by kernel_rfl
def Zdma (x23:Value) (r2:Value) (H:Heap) (K:Value->Value->Heap->Prop) (R:Value->Heap->Prop):Prop:=
 K r2 x23 H
theorem Zdeh (ρ:Env) (x23:Value) (r2:Value) (H:Heap) (K:Value->Value->Heap->Prop) (R:Value->Heap->Prop):Zdma x23 r2 H K R=Zd Tryz.prog Zme (cA (cK (cR (cL (cR (cR (Zg Tryz.f105))))))) (put (put ρ (some 23) x23) (some 2) r2) H (Zev (fun ρ H=>K (ρ 2) (ρ 5) H) (RetW Tryz.prog Tryz.f105.results.toList R)):=by kernel_rfl
def Zcmn (r2b:Nat) (x5a:Option Addr) (x5n:Nat) (x5c:Nat) (H:Heap) (K:Heap->Prop) (R:Value->Heap->Prop):Prop:=
 ∃bs:List Nat,(∀b∈bs,∃o,H b=some o)∧
 r2b∈bs∧∃x24:Option Addr,H.cell ⟨r2b,0,none⟩=some (Value.pointer x24)∧
 r2b∈bs∧∃x25:Option Addr,H.cell ⟨r2b,0,none⟩=some (Value.pointer x25)∧
 NilP x25 fun x26p=>
 x26p.block∈bs∧∃(x29a:Option Addr) (x29n x29c:Nat),H.cell ⟨x26p.block,x26p.off+11,none⟩=some (Value.slice x29a x29n x29c)∧
 FnW Tryz.prog Zhc ⟨[(Value.slice x5a x5n x5c)]⟩ H fun x31v H1=>
 ∃x31:Int,x31v=(Value.int .u32 x31)∧
 Zes bs H H1∧NewW H1 (Obj.cells ⟨[(Value.int .u32 x31)]⟩ Zdm) fun x32b H2=>
 AppW Tryz.prog #[Zls,Zls] Zls [(Value.slice x29a x29n x29c),(Value.slice (some ⟨x32b,0,none⟩) 1 1)] H2 fun x33v H3=>
 ∃(x33a:Option Addr) (x33n x33c:Nat),x33v=(Value.slice x33a x33n x33c)∧
 Zes bs H H3∧NilP x24 fun x34p=>
 Zc H3 ⟨x34p.block,x34p.off+11,none⟩ (Value.slice x33a x33n x33c) fun H4=>
 K H4
theorem Zdmb (ρ:Env) (r2b:Nat) (x5a:Option Addr) (x5n:Nat) (x5c:Nat) (H:Heap) (K:Heap->Prop) (R:Value->Heap->Prop):Zcmn r2b x5a x5n x5c H K R=Zd Tryz.prog Zme (cB (cK (cR (cL (cR (cR (Zg Tryz.f105))))))) (put (put ρ (some 2) (Value.pointer (some ⟨r2b,0,none⟩))) (some 5) (Value.slice x5a x5n x5c)) H (Zev (fun ρ H=>K H) (RetW Tryz.prog Tryz.f105.results.toList R)):=by kernel_rfl
def Zdgj (H:Heap) (K:Heap->Prop) (R:Value->Heap->Prop):Prop:=
 R (Value.bool true) H
theorem Zcva (ρ:Env) (H:Heap) (K:Heap->Prop) (R:Value->Heap->Prop):Zdgj H K R=Zd Tryz.prog Zme (cR (cR (cR (Zg Tryz.f105)))) ρ H (Zev (fun ρ H=>K H) (RetW Tryz.prog Tryz.f105.results.toList R)):=by kernel_rfl
def Zdjc (s0a:Option Addr) (s0n:Nat) (s0c:Nat) (n1:Int) (H:Heap) (K:Value->Value->Heap->Prop) (R:Value->Heap->Prop):Prop:=
 NewW H (Obj.cells ⟨[(Value.slice s0a s0n s0c)]⟩ Zmn) fun s2b H1=>
 NewW H1 (Obj.cells ⟨[(Value.int .i64 n1)]⟩ Zjc) fun n3b H2=>
 K (Value.pointer (some ⟨s2b,0,none⟩)) (Value.pointer (some ⟨n3b,0,none⟩)) H2
theorem Zctk (ρ:Env) (s0a:Option Addr) (s0n:Nat) (s0c:Nat) (n1:Int) (H:Heap) (K:Value->Value->Heap->Prop) (R:Value->Heap->Prop):Zdjc s0a s0n s0c n1 H K R=Zd Tryz.prog Zbab (cL (Zg Tryz.f116)) (put (put ρ (some 0) (Value.slice s0a s0n s0c)) (some 1) (Value.int .i64 n1)) H (Zev (fun ρ H=>K (ρ 2) (ρ 3) H) (RetW Tryz.prog Tryz.f116.results.toList R)):=by kernel_rfl
def Zcyw (s2:Value) (n3b:Nat) (H:Heap) (K:Value->Value->Value->Heap->Prop) (R:Value->Heap->Prop):Prop:=
 ∃x5:Int,H.cell ⟨n3b,0,none⟩=some (Value.int .i64 x5)∧
 K s2 (Value.pointer (some ⟨n3b,0,none⟩)) (Value.bool (decide ((x5:Int)<1))) H
theorem Zdea (ρ:Env) (s2:Value) (n3b:Nat) (H:Heap) (K:Value->Value->Value->Heap->Prop) (R:Value->Heap->Prop):Zcyw s2 n3b H K R=Zd Tryz.prog Zbab (cL (cL (cR (Zg Tryz.f116)))) (put (put ρ (some 2) s2) (some 3) (Value.pointer (some ⟨n3b,0,none⟩))) H (Zev (fun ρ H=>K (ρ 2) (ρ 3) (ρ 6) H) (RetW Tryz.prog Tryz.f116.results.toList R)):=by kernel_rfl
def Zddv (s2b:Nat) (n3b:Nat) (H:Heap) (K:Heap->Prop) (R:Value->Heap->Prop):Prop:=
 R (Value.func (.func Zid) #[] #[(Value.pointer (some ⟨s2b,0,none⟩)),(Value.pointer (some ⟨n3b,0,none⟩))]) H
theorem Zdic (ρ:Env) (s2b:Nat) (n3b:Nat) (H:Heap) (K:Heap->Prop) (R:Value->Heap->Prop):Zddv s2b n3b H K R=Zd Tryz.prog Zbab (cR (cR (Zg Tryz.f116))) (put (put ρ (some 2) (Value.pointer (some ⟨s2b,0,none⟩))) (some 3) (Value.pointer (some ⟨n3b,0,none⟩))) H (Zev (fun ρ H=>K H) (RetW Tryz.prog Tryz.f116.results.toList R)):=by kernel_rfl
end Go.Proofs.YthhcfdpoiganhaaGreat
end
section
set_option maxRecDepth 100000
namespace Go.Proofs.YthhcfdpoiganhaaGreat
open Go.Sh
def Zcbd:Plan:=⟨[],[(2,[8],[.int .i64],[0,1,7])],[],[]⟩
theorem Zcyx:Known Tryz.prog Zbbc Tryz.f100 Zcbd (Zg Tryz.f100):=by refine ⟨Tryz.func100,?_,?_,?_,?_,?_⟩<;>kernel_rfl
def Zbrr (s0a:Option Addr) (s0n:Nat) (s0c:Nat) (f:FuncId) (w0:Value) (x8:Int) (H1:Heap) (next2:(Int×Unit)->Heap->Prop) (R:Value->Heap->Prop):Prop:=
 IfB (decide ((x8:Int)<(s0n:Int)))
 (NilP s0a fun x14q=>
 InB x8 s0n fun x14i=>
 elemAt x14q x14i 2 fun x14p=>
 ∃x15c0:Int,H1.cell x14p=some (Value.int .i64 x15c0)∧∃(x15c1a:Option Addr) (x15c1n x15c1c:Nat),H1.cell ⟨x14p.block,x14p.off+1,none⟩=some (Value.slice x15c1a x15c1n x15c1c)∧FnW Tryz.prog f ⟨[(Value.agg ⟨[(Value.int .i64 x15c0),(Value.slice x15c1a x15c1n x15c1c)]⟩),w0]⟩ H1 fun x16v H2=>
 ∃x16:Bool,x16v=(Value.bool x16)∧
 IfB x16
 (R (Value.int .i64 x8) H2)
 (next2 ((IntKind.wrap .i64 (x8+1)),()) H2))
 (R (Value.int .i64 (-1)) H1)
def Zcjd (s0a:Option Addr) (s0n:Nat) (s0c:Nat) (f:FuncId) (w0:Value) (H:Heap) (R:Value->Heap->Prop):Prop:=
 Zil (Int×Unit) (0,()) H fun x H next=>∀_g:Env,Zbrr s0a s0n s0c f w0 x.1 H next R
theorem Zdjm (s0a:Option Addr) (s0n:Nat) (s0c:Nat) (f:FuncId) (w0:Value) (H:Heap) (R:Value->Heap->Prop):Zcjd s0a s0n s0c f w0 H R=Zd Tryz.prog Zcbd (Zg Tryz.f100) (env0 [(Value.slice s0a s0n s0c),(Value.func (.func f) #[] #[w0])]) H (RetW Tryz.prog Tryz.f100.results.toList R):=by kernel_rfl
theorem Zdka (s0a:Option Addr) (s0n:Nat) (s0c:Nat) (f:FuncId) (w0:Value) {H:Heap} {R:Value->Heap->Prop} (h:Zcjd s0a s0n s0c f w0 H fun v H1=>∀H2,Shut H H1 H2->R v H2):FnW Tryz.prog Zbbc ⟨[(Value.slice s0a s0n s0c),(Value.func (.func f) #[] #[w0])]⟩ H R:=FnW.of_code Zcyx (by kernel_rfl) (Eq.mp (Zdjm s0a s0n s0c f w0 H _) h)
def Zchc:Plan:=⟨[],[],[],[]⟩
theorem Zcov:Known Tryz.prog Zsk Tryz.f101 Zchc (Zg Tryz.f101):=by refine ⟨Tryz.func101,?_,?_,?_,?_,?_⟩<;>kernel_rfl
def Zcfm (x0c0:Int) (x0c1a:Option Addr) (x0c1n:Nat) (x0c1c:Nat) (b1:Nat) (H:Heap) (R:Value->Heap->Prop):Prop:=
 NewW H (Obj.cells ⟨[(Value.int .i64 x0c0),(Value.slice x0c1a x0c1n x0c1c)]⟩ Zcl) fun x2b H1=>
 ∃x5:Int,H1.cell ⟨x2b,0,none⟩=some (Value.int .i64 x5)∧
 ∃x7:Int,H1.cell ⟨b1,1,none⟩=some (Value.int .i64 x7)∧
 R (Value.bool (decide ((x5:Int)>x7))) H1
theorem Zddb (x0c0:Int) (x0c1a:Option Addr) (x0c1n:Nat) (x0c1c:Nat) (b1:Nat) (H:Heap) (R:Value->Heap->Prop):Zcfm x0c0 x0c1a x0c1n x0c1c b1 H R=Zd Tryz.prog Zchc (Zg Tryz.f101) (env0 [(Value.agg ⟨[(Value.int .i64 x0c0),(Value.slice x0c1a x0c1n x0c1c)]⟩),(Value.pointer (some ⟨b1,0,none⟩))]) H (RetW Tryz.prog Tryz.f101.results.toList R):=by kernel_rfl
theorem Zdgf (x0c0:Int) (x0c1a:Option Addr) (x0c1n:Nat) (x0c1c:Nat) (b1:Nat) {H:Heap} {R:Value->Heap->Prop} (h:Zcfm x0c0 x0c1a x0c1n x0c1c b1 H fun v H1=>∀H2,Shut H H1 H2->R v H2):FnW Tryz.prog Zsk ⟨[(Value.agg ⟨[(Value.int .i64 x0c0),(Value.slice x0c1a x0c1n x0c1c)]⟩),(Value.pointer (some ⟨b1,0,none⟩))]⟩ H R:=FnW.of_code Zcov (by kernel_rfl) (Eq.mp (Zddb x0c0 x0c1a x0c1n x0c1c b1 H _) h)
def Zbwk:Plan:=⟨[],[],[],[]⟩
theorem Zdoq:Known Tryz.prog Zben Tryz.f102 Zbwk (Zg Tryz.f102):=by refine ⟨Tryz.func102,?_,?_,?_,?_,?_⟩<;>kernel_rfl
def Zbql (s0a:Option Addr) (s0n:Nat) (s0c:Nat) (i1:Int) (v2a:Option Addr) (v2n:Nat) (v2c:Nat) (H:Heap) (R:Value->Heap->Prop):Prop:=
 InC i1 s0n fun x12l=>
 IfB (((v2n:Int):Int)==0)
 (R (Value.slice s0a s0n s0c) H)
 (IfB ((i1:Int)==(s0n:Int))
 (AppW Tryz.prog #[Zeq,Zeq] Zeq [(Value.slice s0a s0n s0c),(Value.slice v2a v2n v2c)] H fun x25v H1=>
 ∃(x25a:Option Addr) (x25n x25c:Nat),x25v=(Value.slice x25a x25n x25c)∧
 R (Value.slice x25a x25n x25c) H1)
 (IfB (decide (((IntKind.wrap .i64 ((s0n:Int)+(v2n:Int))):Int)>(s0c:Int)))
 (InC i1 s0c fun x34h=>
 AppW Tryz.prog #[Zeq,Zjc] Zeq [(Value.slice s0a x34h s0c),(Value.int .i64 (IntKind.wrap .i64 ((IntKind.wrap .i64 ((s0n:Int)+(v2n:Int))) - i1)))] H fun x40v H2=>
 ∃(x40a:Option Addr) (x40n x40c:Nat),x40v=(Value.slice x40a x40n x40c)∧
 InC i1 x40n fun x43l=>
 Zgh Tryz.prog #[Zeq,Zeq] Zjc [(Value.slice (if x40c=x43l then x40a else Option.map (fun a=>Addr.add a (x43l*2)) x40a) (x40n - x43l) (x40c - x43l)),(Value.slice v2a v2n v2c)] H2 fun x45v H3=>
 ∃x45:Int,x45v=(Value.int .i64 x45)∧
 InC (IntKind.wrap .i64 (i1+(v2n:Int))) x40n fun x50l=>
 InC i1 s0n fun x53l=>
 Zgh Tryz.prog #[Zeq,Zeq] Zjc [(Value.slice (if x40c=x50l then x40a else Option.map (fun a=>Addr.add a (x50l*2)) x40a) (x40n - x50l) (x40c - x50l)),(Value.slice (if s0c=x53l then s0a else Option.map (fun a=>Addr.add a (x53l*2)) s0a) (s0n - x53l) (s0c - x53l))] H3 fun x54v H4=>
 ∃x54:Int,x54v=(Value.int .i64 x54)∧
 R (Value.slice x40a x40n x40c) H4)
 (InC (IntKind.wrap .i64 ((s0n:Int)+(v2n:Int))) s0c fun x60h=>
 InC (IntKind.wrap .i64 (i1+(v2n:Int))) x60h fun x66l=>
 ExtW Tryz.prog Zdnb ⟨[(Value.slice v2a v2n v2c),(Value.slice (if s0c=x66l then s0a else Option.map (fun a=>Addr.add a (x66l*2)) s0a) (x60h - x66l) (s0c - x66l))]⟩ H fun x67v H5=>
 ∃x67:Bool,x67v=(Value.bool x67)∧
 IfB (!x67)
 (InC (IntKind.wrap .i64 (i1+(v2n:Int))) x60h fun x73l=>
 InC i1 x60h fun x76l=>
 Zgh Tryz.prog #[Zeq,Zeq] Zjc [(Value.slice (if s0c=x73l then s0a else Option.map (fun a=>Addr.add a (x73l*2)) s0a) (x60h - x73l) (s0c - x73l)),(Value.slice (if s0c=x76l then s0a else Option.map (fun a=>Addr.add a (x76l*2)) s0a) (x60h - x76l) (s0c - x76l))] H5 fun x77v H6=>
 ∃x77:Int,x77v=(Value.int .i64 x77)∧
 InC i1 x60h fun x80l=>
 Zgh Tryz.prog #[Zeq,Zeq] Zjc [(Value.slice (if s0c=x80l then s0a else Option.map (fun a=>Addr.add a (x80l*2)) s0a) (x60h - x80l) (s0c - x80l)),(Value.slice v2a v2n v2c)] H6 fun x82v H7=>
 ∃x82:Int,x82v=(Value.int .i64 x82)∧
 R (Value.slice s0a x60h s0c) H7)
 (InC (s0n:Int) x60h fun x86l=>
 Zgh Tryz.prog #[Zeq,Zeq] Zjc [(Value.slice (if s0c=x86l then s0a else Option.map (fun a=>Addr.add a (x86l*2)) s0a) (x60h - x86l) (s0c - x86l)),(Value.slice v2a v2n v2c)] H5 fun x88v H8=>
 ∃x88:Int,x88v=(Value.int .i64 x88)∧
 InC i1 x60h fun x91l=>
 FnW Tryz.prog Zdau ⟨[(Value.slice (if s0c=x91l then s0a else Option.map (fun a=>Addr.add a (x91l*2)) s0a) (x60h - x91l) (s0c - x91l)),(Value.int .i64 (v2n:Int))]⟩ H8 fun x93v H9=>
 x93v=(Value.tuple ⟨[]⟩)∧
 R (Value.slice s0a x60h s0c) H9))))
theorem Zcmi (s0a:Option Addr) (s0n:Nat) (s0c:Nat) (i1:Int) (v2a:Option Addr) (v2n:Nat) (v2c:Nat) (H:Heap) (R:Value->Heap->Prop):Zbql s0a s0n s0c i1 v2a v2n v2c H R=Zd Tryz.prog Zbwk (Zg Tryz.f102) (env0 [(Value.slice s0a s0n s0c),(Value.int .i64 i1),(Value.slice v2a v2n v2c)]) H (RetW Tryz.prog Tryz.f102.results.toList R):=by kernel_rfl
theorem Zdnv (s0a:Option Addr) (s0n:Nat) (s0c:Nat) (i1:Int) (v2a:Option Addr) (v2n:Nat) (v2c:Nat) {H:Heap} {R:Value->Heap->Prop} (h:Zbql s0a s0n s0c i1 v2a v2n v2c H fun v H1=>∀H2,Shut H H1 H2->R v H2):FnW Tryz.prog Zben ⟨[(Value.slice s0a s0n s0c),(Value.int .i64 i1),(Value.slice v2a v2n v2c)]⟩ H R:=FnW.of_code Zdoq (by kernel_rfl) (Eq.mp (Zcmi s0a s0n s0c i1 v2a v2n v2c H _) h)
end Go.Proofs.YthhcfdpoiganhaaGreat
end
